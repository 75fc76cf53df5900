import Derived.Test.YtmeebemkoakkmaaGreatDoorSxJ
set_option linter.all false
/-
  copy; the operations on memory together.
-/
noncomputable section
namespace Go.Sx
open Go

/-- cells written into a row -/
def SO.over : SO → Nat → SO → Nat → Option (SO × List Ob)
  | .ints k xs, off, .ints k' ys, n => if k = k' then some (.ints k (xs.take off ++ ys.take n ++ xs.drop (off + n)), [off + n ≤ xs.length]) else none
  | _, _, _, _ => none
theorem SO.over_sound {η : Env} {so src so2 : SO} {off n cp : Nat} {o : List Ob} {l : List Value} (h : so.over off src n = some (so2, o)) (ho : ∀ p ∈ o, p) (hr : so.rep η cp l) (hn : n ≤ (src.flat η).length) :
    off + n ≤ l.length ∧ so2.rep η cp (spliceV l off ((src.flat η).take n)) ∧ src.sz = 1 ∧ ∀ v ∈ (src.flat η).take n, v.oneCell' = true := by
  unfold SO.over at h
  split at h
  · rename_i k xs k' ys
    split at h
    · rename_i hk; subst hk
      simp only [Option.some.injEq, Prod.mk.injEq] at h; obtain ⟨rfl, rfl⟩ := h
      have hle : off + n ≤ xs.length := ho (ob (off + n ≤ xs.length)) (by simp)
      obtain ⟨hcp, sp, hsp⟩ := hr
      have hll : l.length = xs.length + sp.length := by rw [hsp]; simp
      have hvl : ((SO.flat η (.ints k ys)).take n).length = n := by simp at hn ⊢; omega
      refine ⟨by omega, ⟨?_, sp, ?_⟩, rfl, fun v hv => SO.ones_flat (so := .ints k ys) (η := η) rfl v (List.mem_of_mem_take hv)⟩
      · rw [spliceV_length (by rw [hvl]; omega)]; exact hcp
      · rw [spliceV_pre hsp (by rw [hvl]; simp; omega)]
        congr 1
        unfold spliceV
        rw [hvl]
        simp [SO.flat, List.map_take, List.map_drop]
    · cases h
  · cases h
def copyS (P : Program) (t : TypeId) (d x : SV) (g : Nat → Option Blk) : Res :=
  match P.underlying t, d with
  | some (.slice elem), .sl id off len _ => match P.info? elem, g id, srcS x g with
    | some e, some b, some (m, so, o, _) => match b.so.over off so (min m len) with
      | some (so2, o2) => if b.rw && decide (e.size = 1) then .one ⟨o ++ o2, .int .i64 (min m len : Nat), [(id, some { b with so := so2 })]⟩ else .fail
      | none => .fail
    | _, _, _ => .fail
  | _, _ => .fail
theorem copyS_sound {P : Program} {η : Env} {B : Base} {hp : Hp} {w : World} {t u ty : TypeId} {d x : SV} {e : Eff} (h : (copyS P t d x (hget hp)).sat e) (hR : HRep B η hp w) :
    ∃ w', (Builtin.copy_ #[t, u] ty #[d.den η, x.den η]).run P w = .ok (e.val.den η) w' ∧ HRep B η (hsets hp e.sets) w' := by
  unfold copyS at h
  split at h
  · rename_i elem id off len cp hu
    split at h
    · rename_i ei b m so o f he hb hsrc
      split at h
      · rename_i so2 o2 hov
        split at h
        · rename_i hcond
          simp only [Bool.and_eq_true, decide_eq_true_eq] at hcond
          obtain ⟨hrw, hsz⟩ := hcond
          obtain ⟨rfl, ho⟩ := h
          obtain ⟨hl, hfl, hrow, _, hfc⟩ := srcS_sound (P := P) hsrc (fun p hp => ho p (by simp [hp])) hR
          obtain ⟨_, c, T, fr, hc, hfr, hr⟩ := hR.blk id b hb
          have hs1 : so.sz = 1 := by
            unfold SO.over at hov
            split at hov
            · rfl
            · cases hov
          rw [hs1, Nat.mul_one] at hfl
          obtain ⟨h1, h2, _, h4⟩ := SO.over_sound hov (fun p hp => ho p (by simp [hp])) hr (by rw [hfl]; exact Nat.min_le_left ..)
          have h3 := hfc (min m len) (Nat.min_le_left ..)
          rw [hs1, Nat.mul_one] at h3
          have hvl : ((so.flat η).take (min m len)).length = min m len := by rw [List.length_take, hfl]; omega
          unfold Builtin.copy_
          have g0 : (#[t, u] : Array TypeId)[0]? = some t := rfl
          have g3 : (#[(SV.sl id off len cp).den η, x.den η] : Array Value)[1]? = some (x.den η) := rfl
          have g4 : (#[(SV.sl id off len cp).den η, x.den η] : Array Value)[0]? = some (.slice (some ⟨η.adr id, off, none⟩) len (cp.of η id)) := rfl
          simp only [g0, g3, g4]
          have hmin : Nat.min m len = min m len := rfl
          simp only [Sem.run_bind, run_underlying hu, Result.andThen_ok, hl, run_szOf he, hsz, hmin, h3]
          have hst := run_storeCells (P := P) (T := T) (a := η.adr id) (hfr hrw) ((so.flat η).take (min m len)) off 0 c w rfl hc h4 (by rw [hvl]; simp at h1; omega)
          rw [hst]
          refine ⟨_, rfl, ?_⟩
          refine HRep.write (c := c) (c' := (spliceV c.toList (off + 0) ((so.flat η).take (min m len))).toArray) hR hb hrw hc rfl rfl rfl rfl ?_ (by simpa using h2)
          simp only [List.size_toArray]; rw [spliceV_length (by rw [hvl]; simp at h1 ⊢; omega)]; simp
        · exact h.elim
      · exact h.elim
    · exact h.elim
  · exact h.elim

/-- a slice of unknown capacity, cut behind -/
def resliceS (P : Program) (t : TypeId) (x : SV) (lo hi : Option SV) (g : Nat → Option Blk) : Res :=
  match P.underlying t, x with
  | some (.slice elem), .sl id 0 len .free => match P.info? elem, g id, boundS 0 lo, boundS len hi with
    | some _, some b, some (true, l), some (_, h) => match b.so.part 0 h.toNat with
      | some (_, o) => if l = 0 ∧ b.so.sz = 1 then .one ⟨(0 ≤ h) :: o, .sl id 0 h.toNat .free, []⟩ else .fail
      | none => .fail
    | _, _, _, _ => .fail
  | _, _ => .fail
theorem bounds_zero {P : Program} {η : Env} {w : World} {len y : Nat} {lo hi : Option SV} {b1 b2 : Bool} {h : Int} (h1 : boundS 0 lo = some (b1, 0)) (h2 : boundS len hi = some (b2, h)) (h0 : 0 ≤ h) (hy : h ≤ y) :
    (Instr.sliceBounds true len y (lo.map (SV.den η)) (hi.map (SV.den η)) none).run P w = .ok (0, h.toNat, y) w := by
  cases hi with
  | none =>
    simp only [boundS, Option.some.injEq, Prod.mk.injEq] at h2
    obtain ⟨rfl, rfl⟩ := h2
    cases lo with
    | none => simp [Instr.sliceBounds]
    | some v =>
      simp only [boundS, Option.map_eq_some_iff] at h1
      obtain ⟨⟨lv, k, n⟩, hv, he⟩ := h1
      simp only [Prod.mk.injEq] at he; obtain ⟨rfl, rfl⟩ := he
      simp only [Instr.sliceBounds, Option.map_some, Option.map_none, SV.asI_den hv, Instr.sliceBound, asIntOf, Sem.run_bind, Sem.run_pure, Result.andThen_ok, Int.toNat_natCast]
      rw [if_pos (by omega)]; simp
  | some u =>
    simp only [boundS, Option.map_eq_some_iff] at h2
    obtain ⟨⟨lu, k, n⟩, hu, he⟩ := h2
    simp only [Prod.mk.injEq] at he; obtain ⟨rfl, rfl⟩ := he
    have hp : 0 ≤ n ∧ n ≤ (y : Int) := ⟨h0, hy⟩
    cases lo with
    | none =>
      simp only [Instr.sliceBounds, Option.map_some, Option.map_none, SV.asI_den hu, Instr.sliceBound, asIntOf, Sem.run_bind, Sem.run_pure, Result.andThen_ok]
      rw [if_pos hp]; simp
    | some v =>
      simp only [boundS, Option.map_eq_some_iff] at h1
      obtain ⟨⟨lv, k', n'⟩, hv, he⟩ := h1
      simp only [Prod.mk.injEq] at he; obtain ⟨rfl, rfl⟩ := he
      simp only [Instr.sliceBounds, Option.map_some, SV.asI_den hu, SV.asI_den hv, Instr.sliceBound, asIntOf, Sem.run_bind, Sem.run_pure, Result.andThen_ok]
      rw [if_pos hp]
      simp only [Sem.run_pure, Result.andThen_ok]
      rw [if_pos (by omega)]; simp
theorem resliceS_sound {P : Program} {η : Env} {B : Base} {hp : Hp} {w : World} {t : TypeId} {x : SV} {lo hi : Option SV} {e : Eff} (h : (resliceS P t x lo hi (hget hp)).sat e) (hR : HRep B η hp w) :
    e.sets = [] ∧ (Instr.sliceAt t (x.den η) (lo.map (SV.den η)) (hi.map (SV.den η)) none).run P w = .ok (e.val.den η) w := by
  unfold resliceS at h
  split at h
  · rename_i elem id len hu
    split at h
    · rename_i ei b l b2 hh he hb hlo hhi
      split at h
      · rename_i so o hp'
        split at h
        · rename_i hl
          obtain ⟨rfl, hs⟩ := hl
          obtain ⟨rfl, ho⟩ := h
          refine ⟨rfl, ?_⟩
          have h0 : 0 ≤ hh := ho _ (List.mem_cons_self ..)
          obtain ⟨_, c, T, fr, hc, _, hr⟩ := hR.blk id b hb
          obtain ⟨h1, _, _, _, _, h6⟩ := SO.part_sound (η := η) hp' (fun p hp => ho p (List.mem_cons_of_mem _ hp)) hr
          obtain ⟨hl, _⟩ := (SO.rep_iff h6).1 hr
          rw [hl, hs] at h1
          have hb1 := bounds_zero (P := P) (η := η) (w := w) (y := η.cap id) hlo hhi h0 (by omega)
          unfold Instr.sliceAt
          simp only [Sem.run_bind, run_underlying hu, Result.andThen_ok, SV.den, Cap.of]
          unfold Instr.slice
          simp only [Sem.run_bind, run_underlying hu, Result.andThen_ok, hb1, run_szOf he, Sem.run_pure]
          congr 2
          · split
            · rfl
            · simp [addr_add]
        · exact h.elim
      · exact h.elim
    · exact h.elim
  · exact h.elim

/-! the operations on memory -/
def memOp (P : Program) (ρ : Operand → SV) (g : Nat → Option Blk) (key : Nat) : Op → Res
  | .load t a => loadX P t (ρ a) g
  | .store t a v => storeX P t (ρ a) (ρ v) g
  | .alloc t => allocS P t key
  | .box _ v => boxS (ρ v) key
  | .buildSlice t n parts => buildSliceS P t n (parts.toList.map fun x => (x.1, ρ x.2)) key
  | .makeSlice t l c => makeSliceS P t (ρ l) (ρ c) key
  | .convert s d x => convMemS P s d (ρ x) g key
  | .slice t x lo hi none => resliceS P t (ρ x) (lo.map ρ) (hi.map ρ) g
  | .call { callee := .builtin .append, args, argTypes } => match argTypes.toList, args.toList.map ρ with
    | [t, u], [s, x] => appendS P t u s x g key
    | _, _ => .fail
  | .call { callee := .builtin .copy, args, argTypes } => match argTypes.toList, args.toList.map ρ with
    | [t, _], [d, x] => copyS P t d x g
    | _, _ => .fail
  | _ => .fail

/-- what it yields: a value, or nothing -/
def yields (v : Value) (n : Next) : Prop := n = .value v ∨ (n = .skip ∧ v = undef)

theorem list_two {α β : Type} {l : Array α} {f : α → β} {a b : β} (h : l.toList.map f = [a, b]) : l.map f = #[a, b] := by
  rw [← toArray_map]; exact congrArg List.toArray h

theorem memOp_sound {P : Program} {η : Env} {B : Base} {hp : Hp} {w : World} {ρ : Operand → SV} {o : Oper} {key : Nat} {e : Eff} (h : (memOp P ρ (hget hp) key o.op).sat e)
    (hR : HRep B η hp w) {p : Nat → Bool} (hpk : p key = true) (hf : Hp.fresh p hp = true) (hm : ∀ x ∈ o.op.operands.toList, (ρ x).men p = false) :
    ∃ n w' η', (execOp (fun x => (ρ x).den η) o).run P w = .ok n w' ∧ yields (e.val.den η') n ∧ HRep B η' (hsets hp e.sets) w' ∧ η.like η' p := by
  obtain ⟨dst, op, ty, pos, after, guard⟩ := o
  simp only at h hm
  unfold execOp
  cases op <;> simp only [memOp] at h
  case load t a =>
    obtain ⟨h1, h2⟩ := loadX_sound h hR
    refine ⟨_, w, η, ?_, .inl rfl, by rw [h1]; exact hR, η.like_refl p⟩
    rw [Sem.run_bind, h2]; rfl
  case store t a v =>
    obtain ⟨h1, w', h2, h3⟩ := storeX_sound h hR
    refine ⟨.skip, w', η, ?_, .inr ⟨rfl, by rw [h1]; rfl⟩, h3, η.like_refl p⟩
    rw [Sem.run_bind, h2]; rfl
  case alloc t =>
    obtain ⟨w', η', h1, h2, h3⟩ := allocS_sound h hR hpk hf
    refine ⟨_, w', η', ?_, .inl rfl, h2, h3⟩
    rw [Sem.run_bind, h1]; rfl
  case box t v =>
    obtain ⟨w', η', h1, h2, h3⟩ := boxS_sound (t := t) h hR hpk hf (hm v (by simp [Op.operands]))
    refine ⟨_, w', η', ?_, .inl rfl, h2, h3⟩
    rw [Sem.run_bind, h1]; rfl
  case buildSlice t n parts =>
    have hm' : mens p ((parts.toList.map fun x => (x.1, ρ x.2)).map (·.2)) = false := by
      have : ∀ x ∈ parts.toList, (ρ x.2).men p = false := fun x hx => hm x.2 (by simp [Op.operands]; exact ⟨x.1, by simpa using hx⟩)
      generalize parts.toList = l at this
      induction l with
      | nil => rfl
      | cons x xs ih => simp only [List.map_cons, mens, this x (List.mem_cons_self ..), Bool.false_or]; exact ih (fun y hy => this y (List.mem_cons_of_mem _ hy))
    obtain ⟨w', η', h1, h2, h3⟩ := buildSliceS_sound h hR hpk hf hm'
    rw [List.map_map, toArray_map] at h1
    refine ⟨_, w', η', ?_, .inl rfl, h2, h3⟩
    rw [Sem.run_bind]
    rw [show ((fun x : Nat × SV => (x.1, x.2.den η)) ∘ fun x : Nat × Operand => (x.1, ρ x.2)) = fun x => (x.1, (ρ x.2).den η) from rfl] at h1
    rw [h1]; rfl
  case makeSlice t l c =>
    obtain ⟨w', η', h1, h2, h3⟩ := makeSliceS_sound h hR hpk hf
    refine ⟨_, w', η', ?_, .inl rfl, h2, h3⟩
    rw [Sem.run_bind, h1]; rfl
  case convert s d x =>
    obtain ⟨w', η', h1, h2, h3⟩ := convMemS_sound h hR hpk hf
    refine ⟨_, w', η', ?_, .inl rfl, h2, h3⟩
    rw [Sem.run_bind, h1]; rfl
  case slice t x lo hi mx =>
    cases mx with
    | some m => exact h.elim
    | none =>
      obtain ⟨h1, h2⟩ := resliceS_sound h hR
      rw [Option.map_map, Option.map_map] at h2
      refine ⟨_, w, η, ?_, .inl rfl, by rw [h1]; exact hR, η.like_refl p⟩
      rw [Sem.run_bind]
      erw [h2]; rfl
  case call c =>
    obtain ⟨callee, args, argTypes⟩ := c
    cases callee with
    | value f => exact h.elim
    | invoke r m => exact h.elim
    | builtin b =>
      cases b <;> first | exact h.elim | skip
      · dsimp only at h
        split at h
        · rename_i t u s x ht hx
          have ht' : argTypes = #[t, u] := by have := congrArg List.toArray ht; simpa using this
          have ha : args.map (fun x => (ρ x).den η) = #[s.den η, x.den η] := list_two (by have := congrArg (List.map (SV.den η)) hx; rw [List.map_map] at this; exact this)
          obtain ⟨w', η', h1, h2, h3⟩ := appendS_sound (ty := ty) h hR hpk hf
          refine ⟨_, w', η', ?_, .inl rfl, h2, h3⟩
          simp only [resolve, Sem.run_bind, Sem.run_pure, Result.andThen_ok, invoke, builtin, ht', ha, h1]
        · exact h.elim
      · dsimp only at h
        split at h
        · rename_i t u d x ht hx
          have ht' : argTypes = #[t, u] := by have := congrArg List.toArray ht; simpa using this
          have ha : args.map (fun x => (ρ x).den η) = #[d.den η, x.den η] := list_two (by have := congrArg (List.map (SV.den η)) hx; rw [List.map_map] at this; exact this)
          obtain ⟨w', h1, h2⟩ := copyS_sound (u := u) (ty := ty) h hR
          refine ⟨_, w', η, ?_, .inl rfl, h2, η.like_refl p⟩
          simp only [resolve, Sem.run_bind, Sem.run_pure, Result.andThen_ok, invoke, builtin, ht', ha, h1]
        · exact h.elim
  all_goals exact h.elim
end Go.Sx
