import Derived.Test.YtmeebemkoakkmaaGreatDoorSxH
set_option linter.all false
/-
  append, copy.
-/
noncomputable section
namespace Go.Sx
open Go

def SO.sz : SO → Nat
  | .cells _ => 0
  | .ints .. => 1
  | .strs _ => 1
  | .recs sz _ => sz
def SO.flat (η : Env) : SO → List Value
  | .cells cs => dens η cs
  | .ints k xs => xs.map (Value.int k ·)
  | .strs xs => xs.map (fun s => Value.string ⟨s.toArray⟩)
  | .recs _ cs => dens η cs
def SO.isRow : SO → Bool
  | .cells _ => false
  | _ => true
theorem SO.rep_iff {η : Env} {so : SO} (h : so.isRow = true) {cp : Nat} {l : List Value} : so.rep η cp l ↔ l.length = cp * so.sz ∧ ∃ sp, l = so.flat η ++ sp := by
  cases so <;> simp [SO.isRow] at h <;> simp [SO.rep, SO.sz, SO.flat]

def SO.part : SO → Nat → Nat → Option (SO × List Ob)
  | .ints k xs, off, n => some (.ints k ((xs.drop off).take n), [off + n ≤ xs.length])
  | .strs xs, off, n => some (.strs ((xs.drop off).take n), [off + n ≤ xs.length])
  | .recs sz cs, off, n => if off + n * sz ≤ cs.length then some (.recs sz ((cs.drop off).take (n * sz)), []) else none
  | .cells _, _, _ => none
theorem SO.part_sound {η : Env} {so so' : SO} {off n cp : Nat} {o : List Ob} {l : List Value} (h : so.part off n = some (so', o)) (ho : ∀ p ∈ o, p) (hr : so.rep η cp l) :
    off + n * so.sz ≤ l.length ∧ (l.drop off).take (n * so.sz) = so'.flat η ∧ (so'.flat η).length = n * so.sz ∧ so'.sz = so.sz ∧ so'.isRow = true ∧ so.isRow = true := by
  cases so with
  | cells cs => simp [SO.part] at h
  | ints k xs =>
    simp only [SO.part, Option.some.injEq, Prod.mk.injEq] at h; obtain ⟨rfl, rfl⟩ := h
    have hle : off + n ≤ xs.length := ho _ (List.mem_singleton.2 rfl)
    obtain ⟨_, sp, hsp⟩ := hr
    refine ⟨by rw [hsp]; simp [SO.sz]; omega, ?_, by simp [SO.flat, SO.sz]; omega, rfl, rfl, rfl⟩
    simp only [SO.sz, Nat.mul_one, SO.flat]
    rw [take_drop_pre hsp (by simpa using hle), List.map_take, List.map_drop]
  | strs xs =>
    simp only [SO.part, Option.some.injEq, Prod.mk.injEq] at h; obtain ⟨rfl, rfl⟩ := h
    have hle : off + n ≤ xs.length := ho _ (List.mem_singleton.2 rfl)
    obtain ⟨_, sp, hsp⟩ := hr
    refine ⟨by rw [hsp]; simp [SO.sz]; omega, ?_, by simp [SO.flat, SO.sz]; omega, rfl, rfl, rfl⟩
    simp only [SO.sz, Nat.mul_one, SO.flat]
    rw [take_drop_pre hsp (by simpa using hle), List.map_take, List.map_drop]
  | recs sz cs =>
    simp only [SO.part] at h
    split at h
    · rename_i hle
      simp only [Option.some.injEq, Prod.mk.injEq] at h; obtain ⟨rfl, rfl⟩ := h
      obtain ⟨_, sp, hsp⟩ := hr
      refine ⟨by rw [hsp]; simp [SO.sz, dens_length]; omega, ?_, by simp [SO.flat, SO.sz, dens_length]; omega, rfl, rfl, rfl⟩
      simp only [SO.sz, SO.flat]
      rw [take_drop_pre hsp (by rw [dens_length]; exact hle), dens_take, dens_drop]
    · cases h
theorem SO.part_men {p : Nat → Bool} {so so' : SO} {off n : Nat} {o : List Ob} (h : so.part off n = some (so', o)) (hm : so.men p = false) : so'.men p = false := by
  cases so with
  | cells cs => simp [SO.part] at h
  | ints _ xs => simp only [SO.part, Option.some.injEq, Prod.mk.injEq] at h; obtain ⟨rfl, rfl⟩ := h; rfl
  | strs xs => simp only [SO.part, Option.some.injEq, Prod.mk.injEq] at h; obtain ⟨rfl, rfl⟩ := h; rfl
  | recs sz cs =>
    simp only [SO.part] at h
    split at h
    · simp only [Option.some.injEq, Prod.mk.injEq] at h; obtain ⟨rfl, rfl⟩ := h
      exact mens_sub ((List.take_sublist ..).trans (List.drop_sublist ..)) hm
    · cases h

def SO.join : SO → SO → Option SO
  | .ints k xs, .ints k' ys => if k = k' then some (.ints k (xs ++ ys)) else none
  | .strs xs, .strs ys => some (.strs (xs ++ ys))
  | .recs sz cs, .recs sz' ds => if sz = sz' then some (.recs sz (cs ++ ds)) else none
  | _, _ => none
theorem SO.join_sound {η : Env} {a b c : SO} (h : a.join b = some c) : c.flat η = a.flat η ++ b.flat η ∧ c.sz = a.sz ∧ b.sz = a.sz ∧ c.isRow = true := by
  unfold SO.join at h
  split at h
  · split at h
    · rename_i hk; subst hk; simp only [Option.some.injEq] at h; subst h; exact ⟨by simp [SO.flat], rfl, rfl, rfl⟩
    · cases h
  · simp only [Option.some.injEq] at h; subst h; exact ⟨by simp [SO.flat], rfl, rfl, rfl⟩
  · split at h
    · rename_i hk; subst hk; simp only [Option.some.injEq] at h; subst h; exact ⟨by simp [SO.flat, dens_append], rfl, rfl, rfl⟩
    · cases h
  · cases h
theorem SO.join_men {p : Nat → Bool} {a b c : SO} (h : a.join b = some c) (ha : a.men p = false) (hb : b.men p = false) : c.men p = false := by
  unfold SO.join at h
  split at h
  · split at h
    · simp only [Option.some.injEq] at h; subst h; rfl
    · cases h
  · simp only [Option.some.injEq] at h; subst h; rfl
  · split at h
    · simp only [Option.some.injEq] at h; subst h
      simp only [SO.men, mens_append] at *; simp [ha, hb]
    · cases h
  · cases h

/-- what is appended is of one cell each -/
def SO.ones : SO → Bool
  | .recs _ cs => cs.all SV.one
  | .cells cs => cs.all SV.one
  | _ => true
/-- what is appended or copied: how many, which, what is owed, is it surely not empty -/
def srcS (x : SV) (g : Nat → Option Blk) : Option (Nat × SO × List Ob × Bool) :=
  match x with
  | .sl id off n _ => match g id with
    | some b => match b.so.part off n with
      | some (so, o) => some (n, so, o, b.fix && decide (n ≠ 0))
      | none => none
    | none => none
  | .str s => some (s.length, .ints .u8 (toBytes s), [], false)
  | _ => none

theorem srcS_sound {P : Program} {η : Env} {B : Base} {hp : Hp} {w : World} {x : SV} {n : Nat} {so : SO} {o : List Ob} {f : Bool} (h : srcS x (hget hp) = some (n, so, o, f)) (ho : ∀ p ∈ o, p) (hR : HRep B η hp w) :
    (Builtin.lenOf (x.den η)).run P w = .ok n w ∧ (so.flat η).length = n * so.sz ∧ so.isRow = true ∧ (f = true → n ≠ 0) ∧
      (∀ m, m ≤ n → (Builtin.firstCells so.sz m (x.den η)).run P w = .ok ((so.flat η).take (m * so.sz)).toArray w) := by
  unfold srcS at h
  split at h
  · rename_i id off n' cp
    split at h
    · rename_i b hb
      split at h
      · rename_i so' o' hp'
        simp only [Option.some.injEq, Prod.mk.injEq] at h; obtain ⟨rfl, rfl, rfl, rfl⟩ := h
        obtain ⟨_, c, T, fr, hc, _, hr⟩ := hR.blk id b hb
        obtain ⟨h1, h2, h3, h4, h5, h6⟩ := SO.part_sound hp' ho hr
        refine ⟨rfl, by rw [h4]; exact h3, h5, fun hf => by simp at hf; exact hf.2, fun m hm => ?_⟩
        unfold Builtin.firstCells
        simp only [SV.den]
        have hmul : m * so'.sz ≤ n' * b.so.sz := by rw [h4]; exact Nat.mul_le_mul_right _ hm
        rw [run_loadCells hc (by simp at h1; omega), ← h2, List.take_take, Nat.min_eq_left hmul]
      · cases h
    · cases h
  · rename_i s
    simp only [Option.some.injEq, Prod.mk.injEq] at h; obtain ⟨rfl, rfl, rfl, rfl⟩ := h
    refine ⟨by simp [Builtin.lenOf, SV.den, ByteArray.size], by simp [SO.flat, SO.sz, toBytes], rfl, fun h => by simp at h, fun m hm => ?_⟩
    unfold Builtin.firstCells
    simp only [SV.den, SO.sz, Nat.mul_one, SO.flat, toBytes]
    rw [extract_mk]
    simp [Function.comp_def]
  · cases h
theorem srcS_men {p : Nat → Bool} {x : SV} {hp : Hp} {n : Nat} {so : SO} {o : List Ob} {f : Bool} (h : srcS x (hget hp) = some (n, so, o, f)) (hf : Hp.fresh p hp = true) : so.men p = false := by
  unfold srcS at h
  split at h
  · split at h
    · rename_i b hb
      split at h
      · rename_i so' o' hp'
        simp only [Option.some.injEq, Prod.mk.injEq] at h; obtain ⟨rfl, rfl, rfl, rfl⟩ := h
        exact SO.part_men hp' (Hp.fresh_get hf hb).2
      · cases h
    · cases h
  · simp only [Option.some.injEq, Prod.mk.injEq] at h; obtain ⟨rfl, rfl, rfl, rfl⟩ := h; rfl
  · cases h

/-- a slice that is appended to: its length, content, capacity where known, what is owed -/
def dstS (s : SV) (g : Nat → Option Blk) : Option (Nat × Nat × SO × List Ob) :=
  match s with
  | .sl id 0 len .free => match g id with
    | some b => if b.rw then match b.so.part 0 len with
        | some (so, o) => some (id, len, so, o)
        | none => none
      else none
    | none => none
  | .sl id 0 len (.known n) => match g id with
    | some b => if b.rw then match b.so.part 0 len, b.kc with
        | some (so, o), some m => some (id, len, so, (n = m) :: o)
        | _, _ => none
      else none
    | none => none
  | _ => none

def okSrc : TypeDesc → Bool
  | .slice _ => true
  | .string => true
  | _ => false
def appendS (P : Program) (t u : TypeId) (s x : SV) (g : Nat → Option Blk) (key : Nat) : Res :=
  match P.underlying t, P.underlying u with
  | some (.slice elem), some du => match P.info? elem with
    | some e => match e.zero with
      | some z =>
        if okSrc du && decide (z.cells.size = e.size) && decide (1 ≤ e.bytes) && decide (e.bytes ≤ 200) then
          match s with
          | .nils => match srcS x g with
            | some (n, so, o, f) =>
              if so.sz = e.size then
                let big : Eff := ⟨o ++ [ob (n ≤ 500000000000)], .sl key 0 n .free, [(key, some ⟨true, none, false, so⟩)]⟩
                if f then .one big else .alt (n = 0) ⟨o, .nils, []⟩ (.one big)
              else .fail
            | none => match x with
              | .nils => .one ⟨[], .nils, []⟩
              | _ => .fail
          | s => match dstS s g, srcS x g with
            | some (id, len, so, o), some (n, so', o', _) => match so.join so' with
              | some so2 => if so.sz = e.size ∧ so'.ones = true then .one ⟨o ++ o' ++ [ob (len + n ≤ 500000000000)], .sl key 0 (len + n) .free, [(id, none), (key, some ⟨true, none, false, so2⟩)]⟩ else .fail
              | none => .fail
            | _, _ => .fail
        else .fail
      | none => .fail
    | none => .fail
  | _, _ => .fail

theorem growBy_le (n : Nat) : ∀ (r c : Nat), c ≤ 2 * n + 768 → Builtin.growBy n r c ≤ 2 * n + 768
  | 0, c, h => h
  | r + 1, c, h => by
    unfold Builtin.growBy
    split
    · exact h
    · exact growBy_le n r _ (by omega)
theorem nextcap_le {n c : Nat} (h : c < n) : Builtin.nextslicecap n c ≤ 2 * n + 768 := by
  unfold Builtin.nextslicecap
  split
  · omega
  · split
    · omega
    · exact growBy_le n 4 c (by omega)

theorem HRep.drop {B : Base} {η : Env} {hp : Hp} {w : World} (h : HRep B η hp w) (i : Nat) : HRep B η (hset hp i none) w := by
  have key : ∀ j b, hget (hset hp i none) j = some b → hget hp j = some b ∧ j ≠ i := fun j b hg => by
    rw [hget_hset] at hg
    split at hg
    · cases hg
    · rename_i e; exact ⟨hg, fun e' => e e'.symm⟩
  exact ⟨fun j b hg => h.blk j b (key j b hg).1, fun j k b c h1 h2 => h.apart j k b c (key j b h1).1 (key k c h2).1, fun j b hg => h.mine j b (key j b hg).1, fun j r hg => h.loops j r (lget_of_hset hg).1, fun j r hg => h.lmine j r (lget_of_hset hg).1, fun j k r s h1 h2 hjk => h.lapart j k r s (lget_of_hset h1).1 (lget_of_hset h2).1 hjk, h.size, h.kept, h.os, h.tape, h.output⟩

theorem fresh_drop {p : Nat → Bool} {hp : Hp} {i : Nat} (h : Hp.fresh p hp = true) (hi : p i = false) : Hp.fresh p (hset hp i none) = true :=
  Hp.fresh_eset (e := .ofO none) hi rfl h

/-- a block under another name -/
theorem HRep.rename {B : Base} {η : Env} {hp : Hp} {w : World} {i k : Nat} {b b' : Blk} {p : Nat → Bool} (h : HRep B η hp w) (hg : hget hp i = some b) (hrw : b.rw = true) (hpk : p k = true) (hf : Hp.fresh p hp = true) (hm : b'.so.men p = false)
    (hb' : b'.kc = none) {c : Array Value} {T : TypeId} {fr : Nat × Nat} (hc : w.heap[η.adr i]? = some (.cells c T fr)) (hr : b'.so.rep η (η.cap i) c.toList) :
    HRep B (η.set k (η.adr i) (η.cap i)) (hset (hset hp i none) k (some b')) w := by
  have hl := η.like_set k (η.adr i) (η.cap i) hpk
  have hik : i ≠ k := fun e => by have := (Hp.fresh_get hf hg).1; rw [e, hpk] at this; cases this
  have hself : (η.set k (η.adr i) (η.cap i)).adr k = η.adr i ∧ (η.set k (η.adr i) (η.cap i)).cap k = η.cap i := by simp [Env.set]
  have hoth : ∀ j, j ≠ k → (η.set k (η.adr i) (η.cap i)).adr j = η.adr j ∧ (η.set k (η.adr i) (η.cap i)).cap j = η.cap j := fun j hj => by simp [Env.set, hj]
  have key : ∀ j b1, hget (hset (hset hp i none) k (some b')) j = some b1 → (j = k ∧ b1 = b') ∨ (j ≠ k ∧ j ≠ i ∧ hget hp j = some b1) := fun j b1 hg1 => by
    rw [hget_hset] at hg1
    split at hg1
    · rename_i e; exact .inl ⟨e.symm, by simpa using hg1.symm⟩
    · rename_i e
      rw [hget_hset] at hg1
      split at hg1
      · cases hg1
      · rename_i e2; exact .inr ⟨fun e' => e e'.symm, fun e' => e2 e'.symm, hg1⟩
  obtain ⟨_, c1, T1, fr1, hc1, hfr1, _⟩ := h.blk i b hg
  rw [hc] at hc1; simp only [Option.some.injEq, Obj.cells.injEq] at hc1; obtain ⟨rfl, rfl, rfl⟩ := hc1
  refine ⟨fun j b1 h1 => ?_, fun j1 j2 b1 b2 h1 h2 hne => ?_, fun j b1 h1 hw1 => ?_, fun j r hg1 => by
      obtain ⟨hg1, hkj⟩ := lget_of_hset hg1
      obtain ⟨hg1, hij⟩ := lget_of_hset hg1
      obtain ⟨hp1, hp2⟩ := Hp.fresh_lget hf hg1
      exact LRec.rep_like hl hp1 hp2 (h.loops j r hg1), fun j r hg1 => by
      obtain ⟨hg1, hkj⟩ := lget_of_hset hg1
      obtain ⟨hg1, hij⟩ := lget_of_hset hg1
      rw [(hoth j (fun e => hkj e.symm)).1, (hoth j (fun e => hkj e.symm)).2]; exact h.lmine j r hg1, fun j1 j2 r s h1 h2 hne => by
      obtain ⟨h1, hk1⟩ := lget_of_hset h1
      obtain ⟨h1, _⟩ := lget_of_hset h1
      obtain ⟨h2, hk2⟩ := lget_of_hset h2
      obtain ⟨h2, _⟩ := lget_of_hset h2
      rw [(hoth j1 (fun e => hk1 e.symm)).1, (hoth j1 (fun e => hk1 e.symm)).2, (hoth j2 (fun e => hk2 e.symm)).1, (hoth j2 (fun e => hk2 e.symm)).2]; exact h.lapart j1 j2 r s h1 h2 hne, h.size, h.kept, h.os, h.tape, h.output⟩
  · rcases key j b1 h1 with ⟨rfl, rfl⟩ | ⟨hjk, hji, hgj⟩
    · refine ⟨fun m hm' => absurd (hb'.symm.trans hm') (by simp), c, T, fr, by rw [hself.1]; exact hc, fun _ => hfr1 hrw, ?_⟩
      rw [hself.2]; exact SO.rep_like hl hm hr
    · obtain ⟨hkc, c2, T2, fr2, hc2, hfr2, hr2⟩ := h.blk j b1 hgj
      rw [Blk.rep, (hoth j hjk).1, (hoth j hjk).2]
      exact ⟨hkc, c2, T2, fr2, hc2, hfr2, SO.rep_like hl (Hp.fresh_get hf hgj).2 hr2⟩
  · rcases key j1 b1 h1 with ⟨rfl, rfl⟩ | ⟨hjk, hji, hgj⟩ <;> rcases key j2 b2 h2 with ⟨rfl, rfl⟩ | ⟨hjk2, hji2, hgj2⟩
    · exact absurd rfl hne
    · rw [hself.1, (hoth j2 hjk2).1]; exact h.apart i j2 b b2 hg hgj2 (Ne.symm hji2)
    · rw [hself.1, (hoth j1 hjk).1]; exact h.apart j1 i b1 b hgj hg hji
    · rw [(hoth j1 hjk).1, (hoth j2 hjk2).1]; exact h.apart j1 j2 b1 b2 hgj hgj2 hne
  · rcases key j b1 h1 with ⟨rfl, rfl⟩ | ⟨hjk, hji, hgj⟩
    · rw [hself.1]; exact h.mine i b hg hrw
    · rw [(hoth j hjk).1]; exact h.mine j b1 hgj hw1

theorem dstS_sound {η : Env} {B : Base} {hp : Hp} {w : World} {s : SV} {id len : Nat} {so : SO} {o : List Ob} (h : dstS s (hget hp) = some (id, len, so, o)) (ho : ∀ p ∈ o, p) (hR : HRep B η hp w) :
    ∃ b c T fr, hget hp id = some b ∧ b.rw = true ∧ w.heap[η.adr id]? = some (.cells c T fr) ∧ (∀ o, o < c.size → ¬ (fr.1 ≤ o ∧ o < fr.2)) ∧ s.den η = .slice (some ⟨η.adr id, 0, none⟩) len (η.cap id) ∧
      c.size = η.cap id * so.sz ∧ c.toList.take (len * so.sz) = so.flat η ∧ (so.flat η).length = len * so.sz ∧ ∀ p, b.so.men p = false → so.men p = false := by
  unfold dstS at h
  split at h
  · rename_i id' len'
    split at h
    · rename_i b hb
      split at h
      · rename_i hrw
        split at h
        · rename_i so' o' hp'
          simp only [Option.some.injEq, Prod.mk.injEq] at h; obtain ⟨rfl, rfl, rfl, rfl⟩ := h
          obtain ⟨_, c, T, fr, hc, hfr, hr⟩ := hR.blk id' b hb
          obtain ⟨h1, h2, h3, h4, h5, h6⟩ := SO.part_sound hp' ho hr
          obtain ⟨hl, _⟩ := (SO.rep_iff h6).1 hr
          exact ⟨b, c, T, fr, hb, hrw, hc, hfr hrw, rfl, by rw [h4, ← hl]; simp, by rw [h4, ← h2]; simp, by rw [h4]; exact h3, fun p hm => SO.part_men hp' hm⟩
        · cases h
      · cases h
    · cases h
  · rename_i id' len' n
    split at h
    · rename_i b hb
      split at h
      · rename_i hrw
        split at h
        · rename_i so' o' m hp' hkc'
          simp only [Option.some.injEq, Prod.mk.injEq] at h; obtain ⟨rfl, rfl, rfl, rfl⟩ := h
          obtain ⟨hkc, c, T, fr, hc, hfr, hr⟩ := hR.blk id' b hb
          obtain ⟨h1, h2, h3, h4, h5, h6⟩ := SO.part_sound hp' (fun p hp => ho p (List.mem_cons_of_mem _ hp)) hr
          obtain ⟨hl, _⟩ := (SO.rep_iff h6).1 hr
          have hnm : n = m := ho _ (List.mem_cons_self ..)
          exact ⟨b, c, T, fr, hb, hrw, hc, hfr hrw, by rw [SV.den, Cap.of, hnm, hkc m hkc'], by rw [h4, ← hl]; simp, by rw [h4, ← h2]; simp, by rw [h4]; exact h3, fun p hm => SO.part_men hp' hm⟩
        · cases h
      · cases h
    · cases h
  · cases h

theorem SO.ones_flat {η : Env} {so : SO} (h : so.ones = true) : ∀ v ∈ so.flat η, v.oneCell' = true := by
  cases so with
  | cells cs => exact ones_den h
  | ints k xs => intro v hv; simp only [SO.flat, List.mem_map] at hv; obtain ⟨_, _, rfl⟩ := hv; rfl
  | strs xs => intro v hv; simp only [SO.flat, List.mem_map] at hv; obtain ⟨_, _, rfl⟩ := hv; rfl
  | recs sz cs => exact ones_den h
end Go.Sx
