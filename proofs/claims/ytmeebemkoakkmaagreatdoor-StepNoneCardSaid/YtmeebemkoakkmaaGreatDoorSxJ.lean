import Derived.Test.YtmeebemkoakkmaaGreatDoorSxI
set_option linter.all false
noncomputable section
namespace Go.Sx
open Go

theorem append_run {P : Program} {w : World} {t u elem ty : TypeId} {du : TypeDesc} {e : TypeInfo} {z : Value} {base : Option Addr} {sLen sCap n : Nat} {x : Value}
    (hu : P.underlying t = some (.slice elem)) (hv : P.underlying u = some du) (hdu : okSrc du = true)
    (he : P.info? elem = some e) (hz : e.zero = some z) (hb1 : 1 ≤ e.bytes) (hb2 : e.bytes ≤ 200) (hlen : (Builtin.lenOf x).run P w = .ok n w) (hbound : sLen + n ≤ 500000000000) :
    (Builtin.append_ #[t, u] ty #[.slice base sLen sCap, x]).run P w =
      if sLen + n ≤ sCap then ((Builtin.firstCells e.size n x).run P w).andThen fun new w1 =>
          ((match base with | some a => storeCells (a.add (sLen * e.size)) new.toList | none => pure () : Sem Unit).run P w1).andThen fun _ w2 => .ok (.slice base (sLen + n) sCap) w2
      else let cap := (Question.appendCap (sLen + n) sCap elem).cut (w.tape w.drawn (Question.appendCap (sLen + n) sCap elem))
        ((Builtin.firstCells e.size sLen (.slice base sLen sCap)).run P { w with drawn := w.drawn + 1 }).andThen fun old w1 =>
          ((Builtin.firstCells e.size n x).run P w1).andThen fun new w2 =>
            .ok (.slice (some ⟨w2.heap.size, 0, none⟩) (sLen + n) cap) { w2 with heap := w2.heap.push (.cells (old ++ new ++ Builtin.zeroCells z.cells (cap - (sLen + n))) elem) } := by
  have hti : ∀ w : World, (typeInfo elem).run P w = .ok e w := fun w => by unfold typeInfo; simp [he]
  have hzr : ∀ w : World, (zeroValue elem).run P w = .ok z w := fun w => run_zero he hz
  unfold Builtin.append_
  have hd : (∃ q, du = .slice q) ∨ du = .string := by cases du <;> simp [okSrc] at hdu ⊢
  have g0 : (#[t, u] : Array TypeId)[0]? = some t := rfl
  have g1 : (#[t, u] : Array TypeId)[1]? = some u := rfl
  have g2 : (#[Value.slice base sLen sCap, x] : Array Value)[0]? = some (.slice base sLen sCap) := rfl
  have g3 : (#[Value.slice base sLen sCap, x] : Array Value)[1]? = some x := rfl
  simp only [g0, g1, g2, g3]
  simp only [Sem.run_bind, run_underlying hu, Result.andThen_ok, run_szOf he]
  rw [run_underlying hv]
  rcases hd with ⟨q, rfl⟩ | rfl
  all_goals
   simp only [Result.andThen_ok, Sem.run_pure, Bool.false_eq_true, if_false, Sem.run_bind, hlen]
   by_cases hc : sLen + n ≤ sCap
   · rw [if_pos hc, if_pos hc]
     simp only [Sem.run_bind, Bool.not_false, if_true]
     cases (Builtin.firstCells e.size n x).run P w with
     | halt h w1 => rfl
     | ok new w1 =>
       simp only [Result.andThen_ok]
       cases base with
       | none => rfl
       | some a => simp only [Sem.run_bind, Sem.run_pure]
   · rw [if_neg hc, if_neg hc]
     have hbn : e.bytes ≠ 0 := by omega
     simp only [Sem.run_bind, hti, Result.andThen_ok, hbn, or_self, and_false, if_false]
     have hcap : ¬ Builtin.nextslicecap (sLen + n) sCap * e.bytes > 2 ^ 48 := by
       have h1 := nextcap_le (n := sLen + n) (c := sCap) (by omega)
       have h2 : Builtin.nextslicecap (sLen + n) sCap * e.bytes ≤ (2 * (sLen + n) + 768) * 200 := Nat.mul_le_mul h1 hb2
       omega
     rw [if_neg hcap]
     simp only [Sem.run_bind, Sem.run_pure, Result.andThen_ok, run_choose, Question.forced, Bool.false_eq_true, if_false, run_askRoom, hti]
     cases (Builtin.firstCells e.size sLen (.slice base sLen sCap)).run P { w with drawn := w.drawn + 1 } with
     | halt h w1 => rfl
     | ok old w1 =>
       simp only [Result.andThen_ok, Bool.not_false, if_true]
       cases (Builtin.firstCells e.size n x).run P w1 with
       | halt h w2 => rfl
       | ok new w2 =>
         simp only [Result.andThen_ok, hzr, newRow, Sem.run_bind, run_newObj, Sem.run_pure]

theorem eset_eset : ∀ (h : Hp) (i : Nat) (a b : Ent), eset (eset h i a) i b = eset h i b
  | [], i, a, b => by simp [eset]
  | (j, c) :: r, i, a, b => by
    simp only [eset]
    split
    · rename_i e; simp [eset, e]
    · rename_i e; simp [eset, e, eset_eset r i a b]
theorem hset_hset (h : Hp) (i : Nat) (a b : Option Blk) : hset (hset h i a) i b = hset h i b := eset_eset ..
theorem fresh_set {p : Nat → Bool} {hp : Hp} {i : Nat} {b : Blk} (h : Hp.fresh p hp = true) (hi : p i = false) (hb : b.so.men p = false) : Hp.fresh p (hset hp i (some b)) = true :=
  Hp.fresh_eset (e := .blk b) hi hb h

theorem zeroCells_len (z : Array Value) (n : Nat) : (Builtin.zeroCells z n).size = n * z.size := by simp [Builtin.zeroCells]

theorem appendCap_ge (n c : Nat) (el : TypeId) (t : Nat) : n ≤ (Question.appendCap n c el).cut t := by simp [Question.cut]

theorem appendS_sound {P : Program} {η : Env} {B : Base} {hp : Hp} {w : World} {t u ty : TypeId} {s x : SV} {key : Nat} {e : Eff} (h : (appendS P t u s x (hget hp) key).sat e)
    (hR : HRep B η hp w) {p : Nat → Bool} (hpk : p key = true) (hf : Hp.fresh p hp = true) :
    ∃ w' η', (Builtin.append_ #[t, u] ty #[s.den η, x.den η]).run P w = .ok (e.val.den η') w' ∧ HRep B η' (hsets hp e.sets) w' ∧ η.like η' p := by
  unfold appendS at h
  split at h
  · rename_i elem du hu hv
    split at h
    · rename_i ei he
      split at h
      · rename_i z hz
        split at h
        · rename_i hcond
          simp only [Bool.and_eq_true, decide_eq_true_eq] at hcond
          obtain ⟨⟨⟨hdu, hzs⟩, hb1⟩, hb2⟩ := hcond
          have hnewblk : ∀ (hp' : Hp) (so : SO) (m : Nat) (w0 : World), HRep B η hp' w0 → Hp.fresh p hp' = true → so.isRow = true → so.sz = ei.size → (so.flat η).length = m * ei.size → so.men p = false →
              ∀ (cap : Nat), m ≤ cap → ∀ (c : Array Value), c = (so.flat η).toArray ++ Builtin.zeroCells z.cells (cap - m) →
              HRep B (η.set key w0.heap.size cap) (hset hp' key (some ⟨true, none, false, so⟩)) { w0 with heap := w0.heap.push (.cells c elem) } := by
            intro hp' so m w0 hR0 hf0 hrow hsz hlen hmen cap hcap c hc
            refine HRep.new (T := elem) (c := c) (fr := (0, 0)) (cp := cap) hR0 hpk hf0 hmen rfl rfl rfl rfl (fun o _ hh => by omega) (fun m hm => by cases hm) ?_
            rw [SO.rep_iff hrow]
            refine ⟨?_, (Builtin.zeroCells z.cells (cap - m)).toList, by rw [hc]; simp⟩
            rw [hc, hsz]
            have : (Builtin.zeroCells z.cells (cap - m)).toList.length = (cap - m) * ei.size := by rw [Array.length_toList, zeroCells_len, hzs]
            simp only [Array.toList_append, List.length_append, this, hlen]
            rw [← Nat.add_mul]; congr 1; omega
          split at h
          · split at h
            · rename_i n so o f hsrc
              split at h
              · rename_i hsz
                have hbig : ∀ e' : Eff, e' = ⟨o ++ [ob (n ≤ 500000000000)], .sl key 0 n .free, [(key, some ⟨true, none, false, so⟩)]⟩ → (∀ p ∈ e'.obl, p) → (n ≠ 0) →
                    ∃ w' η', (Builtin.append_ #[t, u] ty #[SV.nils.den η, x.den η]).run P w = .ok (e'.val.den η') w' ∧ HRep B η' (hsets hp e'.sets) w' ∧ η.like η' p := by
                  intro e' he' ho hn
                  subst he'
                  obtain ⟨hl, hfl, hrow, _, hfc⟩ := srcS_sound (P := P) hsrc (fun p hp => ho p (by simp [hp])) hR
                  have hbd : n ≤ 500000000000 := ho (ob (n ≤ 500000000000)) (by simp)
                  have hmen := srcS_men hsrc hf
                  have hfc' := fun w => (srcS_sound (P := P) (η := η) (B := B) (w := w) hsrc (fun p hp => ho p (by simp [hp])))
                  simp only [SV.den]
                  rw [append_run hu hv hdu he hz hb1 hb2 hl (by omega), if_neg (by omega)]
                  simp only [Nat.zero_add]
                  generalize hcap : (Question.appendCap n 0 elem).cut (w.tape w.drawn (Question.appendCap n 0 elem)) = cap
                  have hge : n ≤ cap := by rw [← hcap]; exact appendCap_ge ..
                  have hR1 : HRep B η hp { w with drawn := w.drawn + 1 } := hR.alike rfl rfl rfl rfl
                  have h1 : (Builtin.firstCells ei.size 0 (Value.slice none 0 0)).run P { w with drawn := w.drawn + 1 } = .ok #[] { w with drawn := w.drawn + 1 } := rfl
                  rw [h1]
                  simp only [Result.andThen_ok]
                  have h2 := (hfc' { w with drawn := w.drawn + 1 } hR1).2.2.2.2 n (Nat.le_refl _)
                  rw [hsz] at h2 hfl
                  rw [h2]
                  simp only [Result.andThen_ok]
                  rw [List.take_of_length_le (by omega)]
                  refine ⟨_, _, ?_, hnewblk hp so n _ hR1 hf hrow hsz hfl hmen cap hge _ rfl, η.like_set key _ cap hpk⟩
                  simp [Env.set, Cap.of]
                split at h
                · rename_i hft
                  obtain ⟨rfl, ho⟩ := h
                  exact hbig _ rfl ho ((srcS_sound (P := P) hsrc (fun p hp => ho p (by simp [hp])) hR).2.2.2.1 hft)
                · rcases h with ⟨hn, rfl, ho⟩ | ⟨hn, rfl, ho⟩
                  · obtain ⟨hl, hfl, hrow, _, hfc⟩ := srcS_sound (P := P) hsrc (fun p hp => ho p hp) hR
                    subst hn
                    refine ⟨w, η, ?_, hR, η.like_refl p⟩
                    simp only [SV.den]
                    rw [append_run hu hv hdu he hz hb1 hb2 hl (by omega), if_pos (by omega)]
                    have := hfc 0 (Nat.le_refl _)
                    rw [hsz] at this
                    rw [this]; rfl
                  · exact hbig _ rfl ho hn
              · exact h.elim
            · split at h
              · obtain ⟨rfl, _⟩ := h
                refine ⟨w, η, ?_, hR, η.like_refl p⟩
                simp only [SV.den]
                rw [append_run (n := 0) hu hv hdu he hz hb1 hb2 rfl (by omega), if_pos (by omega)]
                rfl
              · exact h.elim
          · split at h
            · rename_i id len so o n so' o' f hdst hsrc
              split at h
              · rename_i so2 hj
                split at h
                · rename_i hszo
                  obtain ⟨hsz, hones⟩ := hszo
                  obtain ⟨rfl, ho⟩ := h
                  have hod : ∀ p ∈ o, p := fun p hp => ho p (by simp [hp])
                  have hos : ∀ p ∈ o', p := fun p hp => ho p (by simp [hp])
                  have hbd : len + n ≤ 500000000000 := ho (ob (len + n ≤ 500000000000)) (by simp)
                  obtain ⟨b, c, T, fr, hb, hrw, hc, hfr, hden, hcsz, htk, hflen, hmen⟩ := dstS_sound hdst hod hR
                  obtain ⟨hl, hfl, hrow, _, hfc⟩ := srcS_sound (P := P) hsrc hos hR
                  obtain ⟨hj1, hj2, hj3, hj4⟩ := SO.join_sound (η := η) hj
                  have hmen2 : so2.men p = false := SO.join_men hj (hmen p (Hp.fresh_get hf hb).2) (srcS_men hsrc hf)
                  have hsz' : so'.sz = ei.size := by rw [hj3, hsz]
                  rw [hsz] at hcsz htk hflen
                  rw [hsz'] at hfl
                  have hfl2 : (so2.flat η).length = (len + n) * ei.size := by rw [hj1, List.length_append, hflen, hfl, Nat.add_mul]
                  have hlenle : len * ei.size ≤ c.size := by
                    have := congrArg List.length htk
                    rw [hflen] at this; simp at this; omega
                  rw [hden, append_run hu hv hdu he hz hb1 hb2 hl hbd]
                  have hik : p id = false := (Hp.fresh_get hf hb).1
                  by_cases hroom : len + n ≤ η.cap id
                  · rw [if_pos hroom]
                    have h2 := hfc n (Nat.le_refl _)
                    rw [hsz'] at h2
                    rw [h2]
                    simp only [Result.andThen_ok]
                    rw [List.take_of_length_le (by omega), addr_add]
                    have hle : (len + n) * ei.size ≤ c.size := by rw [hcsz]; exact Nat.mul_le_mul_right _ hroom
                    rw [Nat.add_mul] at hle
                    have hst := run_storeCells (P := P) (T := T) (a := η.adr id) hfr (so'.flat η) (0 + len * ei.size) 0 c w rfl hc (SO.ones_flat hones) (by rw [hfl]; omega)
                    rw [hst]
                    simp only [Result.andThen_ok]
                    have hspl : spliceV c.toList (0 + len * ei.size + 0) (so'.flat η) = so2.flat η ++ c.toList.drop ((len + n) * ei.size) := by
                      unfold spliceV
                      simp only [Nat.zero_add, Nat.add_zero]
                      rw [htk, hj1, hfl, Nat.add_mul]
                    have hrep2 : so2.rep η (η.cap id) (spliceV c.toList (0 + len * ei.size + 0) (so'.flat η)) := by
                      rw [SO.rep_iff hj4]
                      refine ⟨?_, _, hspl⟩
                      rw [spliceV_length (by rw [hfl]; simp; omega), hj2, hsz, ← hcsz]; simp
                    have hlt := (Array.getElem?_eq_some_iff.1 hc).1
                    have hR2 := HRep.write (so := so2) (c' := (spliceV c.toList (0 + len * ei.size + 0) (so'.flat η)).toArray) (w' := { w with heap := w.heap.setIfInBounds (η.adr id) (.cells (spliceV c.toList (0 + len * ei.size + 0) (so'.flat η)).toArray T fr) }) hR hb hrw hc rfl rfl rfl rfl (by simp only [List.size_toArray]; rw [spliceV_length (by rw [hfl]; simp; omega)]; simp) (by simpa using hrep2)
                    have hg2 : hget (hset hp id (some { b with so := so2 })) id = some { b with so := so2 } := by rw [hget_hset]; simp
                    have hf2 : Hp.fresh p (hset hp id (some { b with so := so2 })) = true := fresh_set hf hik hmen2
                    have hren := HRep.rename (k := key) (b' := ⟨true, none, false, so2⟩) hR2 hg2 hrw hpk hf2 hmen2 rfl (c := (spliceV c.toList (0 + len * ei.size + 0) (so'.flat η)).toArray) (T := T) (fr := fr) (by simp [hlt]) (by simpa using hrep2)
                    refine ⟨{ w with heap := w.heap.setIfInBounds (η.adr id) (.cells (spliceV c.toList (0 + len * ei.size + 0) (so'.flat η)).toArray T fr) }, η.set key (η.adr id) (η.cap id), ?_, ?_, η.like_set _ _ _ hpk⟩
                    rotate_left 1
                    · have : hset (hset hp id (some { b with so := so2 })) id none = hset hp id none := hset_hset ..
                      rw [this] at hren
                      exact hren
                    · simp [SV.den, Env.set, Cap.of]
                  · rw [if_neg hroom]
                    have hR1 : HRep B η hp { w with drawn := w.drawn + 1 } := hR.alike rfl rfl rfl rfl
                    have h1 : (Builtin.firstCells ei.size len (.slice (some ⟨η.adr id, 0, none⟩) len (η.cap id))).run P { w with drawn := w.drawn + 1 } = .ok (so.flat η).toArray { w with drawn := w.drawn + 1 } := by
                      change (loadCells ⟨η.adr id, 0, none⟩ (len * ei.size)).run P _ = _
                      rw [run_loadCells (w := { w with drawn := w.drawn + 1 }) (c := c) (T := T) (fr := fr) (off := 0) (n := len * ei.size) hc (by omega)]
                      simp [htk]
                    dsimp only
                    generalize hcap : (Question.appendCap (len + n) (η.cap id) elem).cut (w.tape w.drawn (Question.appendCap (len + n) (η.cap id) elem)) = cap
                    have hge : len + n ≤ cap := by rw [← hcap]; exact appendCap_ge ..
                    rw [h1]
                    simp only [Result.andThen_ok]
                    have h2 := (srcS_sound (P := P) (w := { w with drawn := w.drawn + 1 }) hsrc hos hR1).2.2.2.2 n (Nat.le_refl _)
                    rw [hsz'] at h2
                    rw [h2]
                    simp only [Result.andThen_ok]
                    rw [List.take_of_length_le (by omega)]
                    refine ⟨_, _, ?_, hnewblk (hset hp id none) so2 (len + n) _ (hR1.drop id) (fresh_drop hf hik) hj4 (by rw [hj2, hsz]) hfl2 hmen2 cap hge _ rfl, η.like_set key _ cap hpk⟩
                    rw [hj1]
                    simp [SV.den, Env.set, Cap.of]
                · exact h.elim
              · exact h.elim
            · exact h.elim
        · exact h.elim
      · exact h.elim
    · exact h.elim
  · exact h.elim
end Go.Sx
