import Derived.Test.YtmeebemkoakkmaaGreatDoorSxG
set_option linter.all false
/-
  Slices: made, converted, appended to, copied.
-/
noncomputable section
namespace Go.Sx
open Go

/-- a row's content out of its cells -/
def mkRow (sz : Nat) (cs : List SV) : SO :=
  if sz = 1 then match allI cs with
    | some (k, ns) => .ints k ns
    | none => match allS cs with
      | some (s :: ss) => .strs (s :: ss)
      | _ => .recs sz cs
  else .recs sz cs
theorem mkRow_rep {η : Env} {sz n : Nat} {cs : List SV} (h : cs.length = n * sz) : (mkRow sz cs).rep η n (dens η cs) := by
  unfold mkRow
  split
  · rename_i hs; subst hs
    split
    · rename_i k ns hk
      exact ⟨by rw [dens_length]; omega, [], by rw [allI_den hk]; simp⟩
    · split
      · rename_i s ss hs
        exact ⟨by rw [dens_length]; omega, [], by rw [allS_den hs]; simp⟩
      · exact ⟨by rw [dens_length]; omega, [], by simp⟩
  · exact ⟨by rw [dens_length]; omega, [], by simp⟩
theorem mkRow_men {p : Nat → Bool} {sz : Nat} {cs : List SV} (h : mens p cs = false) : (mkRow sz cs).men p = false := by
  unfold mkRow
  split
  · split
    · rfl
    · split
      · rfl
      · exact h
  · exact h

def initCells (z : Array Value) (n : Nat) : List SV := (List.range n).map fun i => ofV1 z[i % z.size]!
theorem initCells_den (η : Env) (z : Array Value) (n : Nat) : ((Array.range n).map (z[· % z.size]!)).toList = dens η (initCells z n) := by
  unfold initCells
  rw [dens_eq, List.map_map, Array.toList_map, Array.toList_range]
  exact List.map_congr_left fun i _ => (ofV1_den η _).symm
theorem initCells_men (p : Nat → Bool) (z : Array Value) (n : Nat) : mens p (initCells z n) = false := by
  unfold initCells
  rw [show (fun i => ofV1 z[i % z.size]!) = ofV1 ∘ (fun i => z[i % z.size]!) from rfl, ← List.map_map]
  exact mens_ofV1 ..

theorem fillS_len {place : Nat → Option (Nat × Nat)} : ∀ {parts : List (Nat × SV)} {cells out : List SV}, fillS place cells parts = some out → out.length = cells.length
  | [], cells, out, h => by simp [fillS] at h; subst h; rfl
  | (i, v) :: rest, cells, out, h => by
    simp only [fillS] at h
    split at h
    · split at h
      · rename_i hc
        simp only [Bool.and_eq_true, decide_eq_true_eq] at hc
        rw [fillS_len h]; simp [splice]; omega
      · cases h
    · cases h
theorem mens_append {p : Nat → Bool} {a b : List SV} : mens p (a ++ b) = (mens p a || mens p b) := by
  induction a with
  | nil => simp [mens]
  | cons v vs ih => simp [mens, ih, Bool.or_assoc]
theorem mens_sub {p : Nat → Bool} : ∀ {a b : List SV}, a.Sublist b → mens p b = false → mens p a = false
  | _, _, .slnil, h => h
  | _, _, .cons v hs, h => by
    simp only [mens, Bool.or_eq_false_iff] at h; exact mens_sub hs h.2
  | _, _, .cons_cons v hs, h => by
    simp only [mens, Bool.or_eq_false_iff] at h ⊢; exact ⟨h.1, mens_sub hs h.2⟩
theorem fillS_men {p : Nat → Bool} {place : Nat → Option (Nat × Nat)} : ∀ {parts : List (Nat × SV)} {cells out : List SV}, fillS place cells parts = some out → mens p cells = false → mens p (parts.map (·.2)) = false → mens p out = false
  | [], cells, out, h, hc, _ => by simp [fillS] at h; subst h; exact hc
  | (i, v) :: rest, cells, out, h, hc, hp => by
    simp only [fillS] at h
    simp only [List.map_cons, mens, Bool.or_eq_false_iff] at hp
    split at h
    · rename_i vs _ hv
      split at h
      · refine fillS_men h ?_ hp.2
        simp only [splice, mens_append, Bool.or_eq_false_iff]
        exact ⟨⟨mens_sub (List.take_sublist ..) hc, cellsS_men hv hp.1⟩, mens_sub (List.drop_sublist ..) hc⟩
      · cases h
    · cases h

def buildSliceS (P : Program) (t : TypeId) (len : Nat) (parts : List (Nat × SV)) (key : Nat) : Res :=
  match P.underlying t with
  | some (.slice elem) => match P.info? elem with
    | some e => match e.zero with
      | some z => if len * e.size ≤ 16777216 ∧ len * e.size ≠ 0 then
          match fillS (fun j => some (j * e.size, e.size)) (initCells z.cells (len * e.size)) parts with
          | some cs => .one ⟨[], .sl key 0 len (.known len), [(key, some ⟨true, some len, true, mkRow e.size cs⟩)]⟩
          | none => .fail
        else .fail
      | none => .fail
    | none => .fail
  | _ => .fail
theorem buildSliceS_sound {P : Program} {η : Env} {B : Base} {hp : Hp} {w : World} {t : TypeId} {len : Nat} {parts : List (Nat × SV)} {key : Nat} {e : Eff} (h : (buildSliceS P t len parts key).sat e)
    (hR : HRep B η hp w) {p : Nat → Bool} (hpk : p key = true) (hf : Hp.fresh p hp = true) (hm : mens p (parts.map (·.2)) = false) :
    ∃ w' η', (Instr.buildSlice t len (parts.map fun x => (x.1, x.2.den η)).toArray).run P w = .ok (e.val.den η') w' ∧ HRep B η' (hsets hp e.sets) w' ∧ η.like η' p := by
  unfold buildSliceS at h
  split at h
  · rename_i elem hu
    split at h
    · rename_i ei hei
      split at h
      · rename_i z hz
        split at h
        · rename_i hc
          split at h
          · rename_i cs hcs
            obtain ⟨rfl, _⟩ := h
            obtain ⟨c', hc', hd⟩ := fillS_den (η := η) (c := (Array.range (len * ei.size)).map (z.cells[· % z.cells.size]!)) hcs (initCells_den η ..)
            have hlen : cs.length = len * ei.size := by rw [fillS_len hcs]; simp [initCells]
            refine ⟨{ w with heap := w.heap.push (.cells c' elem) }, η.set key w.heap.size len, ?_, HRep.new (T := elem) (c := c') (fr := (0, 0)) (cp := len) hR hpk hf (mkRow_men (fillS_men hcs (initCells_men ..) hm)) rfl rfl rfl rfl (fun o _ hh => by omega) (fun m hm => by cases hm; rfl) (by rw [hd]; exact mkRow_rep hlen), η.like_set key w.heap.size len hpk⟩
            unfold Instr.buildSlice
            simp only [Sem.run_bind, run_underlying hu, Result.andThen_ok, run_szOf hei]
            rw [if_neg (by omega)]
            rw [if_neg hc.2]
            simp only [Sem.run_bind, run_zero hei hz, Result.andThen_ok, Sem.run_pure]
            rw [hc']
            simp [newRow, SV.den, Env.set, Cap.of]
          · exact h.elim
        · exact h.elim
      · exact h.elim
    · exact h.elim
  · exact h.elim

/-- a row of zeros -/
def zeroRow : Value → Nat → Option SO
  | .int k z, n => some (.ints k (List.replicate n z))
  | .string s, n => some (.strs (List.replicate n s.data.toList))
  | _, _ => none

def makeSliceS (P : Program) (t : TypeId) (l c : SV) (key : Nat) : Res :=
  match P.underlying t, l.asI, c.asI with
  | some (.slice elem), some (_, _, n), some (_, _, m) => match P.info? elem with
    | some e => match e.zero with
      | some z => match zeroRow z m.toNat with
        | some so => if e.size = 1 ∧ 1 ≤ e.bytes then .one ⟨[0 ≤ n ∧ n ≤ m ∧ e.bytes * m ≤ 281474976710656], .sl key 0 n.toNat (.known m.toNat), [(key, some ⟨true, some m.toNat, false, so⟩)]⟩ else .fail
        | none => .fail
      | none => .fail
    | none => .fail
  | _, _, _ => .fail

theorem zeroRow_rep {η : Env} {z : Value} {n : Nat} {so : SO} (h : zeroRow z n = some so) : z.cells = #[z] ∧ so.rep η n ((Array.range n).map (fun _ => z)).toList ∧ ∀ q, so.men q = false := by
  unfold zeroRow at h
  split at h
  · simp only [Option.some.injEq] at h; subst h
    exact ⟨rfl, ⟨by simp, [], by simp [List.map_const']⟩, fun _ => rfl⟩
  · simp only [Option.some.injEq] at h; subst h
    exact ⟨rfl, ⟨by simp, [], by simp [List.map_const']⟩, fun _ => rfl⟩
  · cases h

theorem wrap_small {n : Int} (h0 : 0 ≤ n) (h : n ≤ 281474976710656) : IntKind.i64.wrap n = n := by
  unfold IntKind.wrap
  simp [IntKind.bits, IntKind.signed]
  omega

theorem makeSliceS_sound {P : Program} {η : Env} {B : Base} {hp : Hp} {w : World} {t : TypeId} {l c : SV} {key : Nat} {e : Eff} (h : (makeSliceS P t l c key).sat e)
    (hR : HRep B η hp w) {p : Nat → Bool} (hpk : p key = true) (hf : Hp.fresh p hp = true) :
    ∃ w' η', (Instr.makeSlice t (l.den η) (c.den η)).run P w = .ok (e.val.den η') w' ∧ HRep B η' (hsets hp e.sets) w' ∧ η.like η' p := by
  unfold makeSliceS at h
  split at h
  · rename_i elem _ _ n _ _ m hu hl hc
    split at h
    · rename_i ei hei
      split at h
      · rename_i z hz
        split at h
        · rename_i so hso
          split at h
          · rename_i hsz
            obtain ⟨rfl, ho⟩ := h
            obtain ⟨h0, hnm, hb⟩ := ho _ (List.mem_singleton.2 rfl)
            obtain ⟨hzc, hrep, hmen⟩ := zeroRow_rep (η := η) hso
            have hmb : m ≤ 281474976710656 := by
              have h1 : m * 1 ≤ m * (ei.bytes : Int) := Int.mul_le_mul_of_nonneg_left (by omega) (by omega)
              have h2 : m * (ei.bytes : Int) = (ei.bytes : Int) * m := Int.mul_comm ..
              omega
            have hw1 : IntKind.i64.wrap n = n := wrap_small h0 (by omega)
            have hw2 : IntKind.i64.wrap m = m := wrap_small (by omega) hmb
            refine ⟨{ w with heap := w.heap.push (.cells ((Array.range m.toNat).map (fun _ => z)) elem) }, η.set key w.heap.size m.toNat, ?_, HRep.new (T := elem) (c := (Array.range m.toNat).map (fun _ => z)) (fr := (0, 0)) (cp := m.toNat) hR hpk hf (hmen ..) rfl rfl rfl rfl (fun o _ hh => by omega) (fun m' hm => by cases hm; rfl) hrep, η.like_set key w.heap.size m.toNat hpk⟩
            unfold Instr.makeSlice
            rw [SV.asI_den hl, SV.asI_den hc]
            have hti : (typeInfo elem).run P w = .ok ei w := by unfold typeInfo; simp [hei]
            simp only [Sem.run_bind, run_underlying hu, Result.andThen_ok, asInt, asIntOf, Sem.run_pure, hti, hw1, hw2]
            have hcond : ¬ ((m < 0 || (ei.bytes : Int) * m > 2 ^ 48) || decide (n < 0) || decide (n > m)) = true := by
              simp; omega
            have hcond' : (((decide (m < 0) || decide ((ei.bytes : Int) * m > 2 ^ 48)) || decide (n < 0) || decide (n > m)) = true) = False := by
              simpa using hcond
            simp only [hcond', if_false]
            simp only [Sem.run_bind, run_askRoom, Result.andThen_ok, run_szOf hei, hsz.1, Nat.mul_one]
            by_cases hm0 : m.toNat = 0
            · have h00 : Array.range 0 = #[] := rfl
              simp [hm0, newRow, SV.den, Env.set, Cap.of, h00]
            · rw [if_neg hm0]
              simp only [Sem.run_bind, run_zero hei hz, Result.andThen_ok, Sem.run_pure, hzc]
              simp [newRow, SV.den, Env.set, Cap.of, Nat.mod_one]
          · exact h.elim
        · exact h.elim
      · exact h.elim
    · exact h.elim
  · exact h.elim

/-! texts and bytes -/
def toBytes (s : List UInt8) : List Int := s.map fun b => (b.toNat : Int)
def ofBytes (xs : List Int) : List UInt8 := xs.map fun n => UInt8.ofNat n.toNat

def convMemS (P : Program) (s d : TypeId) (x : SV) (g : Nat → Option Blk) (key : Nat) : Res :=
  match P.underlying s, P.underlying d, x with
  | some .string, some (.slice e), .str t => match P.underlying e with
    | some (.int .u8) => .one ⟨[], .sl key 0 t.length .free, [(key, some ⟨true, none, false, .ints .u8 (toBytes t)⟩)]⟩
    | _ => .fail
  | some (.slice e), some .string, .sl id off len _ => match P.underlying e, g id with
    | some (.int .u8), some b => match b.so with
      | .ints .u8 xs => .one ⟨[off + len ≤ xs.length], .str (ofBytes ((xs.drop off).take len)), []⟩
      | _ => .fail
    | _, _ => .fail
  | some (.slice e), some .string, .nils => match P.underlying e with
    | some (.int .u8) => .one ⟨[], .str [], []⟩
    | _ => .fail
  | _, _, _ => .fail

theorem foldl_push (ns : List Int) : ∀ s : ByteArray, (ns.foldl (fun r n => r.push (UInt8.ofNat n.toNat)) s) = ⟨(s.data.toList ++ ofBytes ns).toArray⟩ := by
  induction ns with
  | nil => intro s; apply ByteArray.ext; simp [ofBytes]
  | cons n ns ih =>
    intro s
    rw [List.foldl_cons, ih]
    apply ByteArray.ext
    simp [ofBytes, ByteArray.push]

theorem convMemS_sound {P : Program} {η : Env} {B : Base} {hp : Hp} {w : World} {s d : TypeId} {x : SV} {key : Nat} {e : Eff} (h : (convMemS P s d x (hget hp) key).sat e)
    (hR : HRep B η hp w) {p : Nat → Bool} (hpk : p key = true) (hf : Hp.fresh p hp = true) :
    ∃ w' η', (convert s d (x.den η)).run P w = .ok (e.val.den η') w' ∧ HRep B η' (hsets hp e.sets) w' ∧ η.like η' p := by
  unfold convMemS at h
  split at h
  · rename_i el t hs hd
    split at h
    · rename_i he
      obtain ⟨rfl, _⟩ := h
      unfold convert
      simp only [Sem.run_bind, run_underlying hs, run_underlying hd, Result.andThen_ok, SV.den, run_underlying he]
      unfold Conv.stringToBytes
      simp only [Sem.run_bind, run_choose]
      simp only [Question.forced, Bool.false_eq_true, if_false, Result.andThen_ok]
      generalize hcap : (Question.appendCap (ByteArray.mk t.toArray).size 0 el).cut (w.tape w.drawn (Question.appendCap (ByteArray.mk t.toArray).size 0 el)) = cap
      have hge : t.length ≤ cap := by
        rw [← hcap]; simp [Question.cut, ByteArray.size]
      have hts : (ByteArray.mk t.toArray).size = t.length := by simp [ByteArray.size]
      refine ⟨{ w with drawn := w.drawn + 1, heap := w.heap.push (.cells ((t.toArray.map fun b => Value.int .u8 b.toNat) ++ Array.replicate (cap - t.length) (.int .u8 0)) el (cap, cap + 1)) }, η.set key w.heap.size cap, ?_, HRep.new (T := el) (c := (t.toArray.map fun b => Value.int .u8 b.toNat) ++ Array.replicate (cap - t.length) (.int .u8 0)) (fr := (cap, cap + 1)) (cp := cap) hR hpk hf rfl rfl rfl rfl rfl ?_ (fun m hm => by cases hm) ?_, η.like_set key w.heap.size cap hpk⟩
      rotate_left 1
      · intro o ho
        simp at ho; omega
      · refine ⟨by simp; omega, ?_⟩
        exact ⟨List.replicate (cap - t.length) (.int .u8 0), by simp [toBytes]⟩
      · simp only [newRow, Sem.run_bind, run_newObj, Result.andThen_ok, Sem.run_pure, hts]
        unfold markStringish
        simp only [Sem.run_bind, run_shape, Result.andThen_ok]
        have hsh : ({ w with drawn := w.drawn + 1, heap := w.heap.push (.cells ((t.toArray.map fun b => Value.int .u8 b.toNat) ++ Array.replicate (cap - t.length) (.int .u8 0)) el) } : World).shape? w.heap.size = some (el, cap) := by
          simp [World.shape?]; omega
        rw [hsh]
        simp only [run_freeze, Result.andThen_ok, Env.set, if_true, Cap.of]
        congr 1
        simp only [World.freeze, Nat.one_ne_zero, if_false]
        congr 1
        apply Array.ext
        · simp
        · intro j h1 h2
          rw [Array.getElem_modify]
          split
          · rename_i hj; subst hj; simp
          · rename_i hj
            simp only [Array.getElem_push]
            split
            · rfl
            · simp at h1; omega
    · exact h.elim
  · rename_i el id off len cp hs hd
    split at h
    · rename_i b he hb
      split at h
      · rename_i xs hso
        obtain ⟨rfl, ho⟩ := h
        have hle : off + len ≤ xs.length := ho _ (List.mem_singleton.2 rfl)
        obtain ⟨_, c, T, fr, hc, _, hr⟩ := hR.blk id b hb
        rw [hso] at hr
        obtain ⟨_, sp, hsp⟩ := hr
        refine ⟨w, η, ?_, hR, η.like_refl p⟩
        simp only [SV.den]
        rw [run_convert_bytes_string w s d el _ len _ hs he hd]
        have hcl : c.size = xs.length + sp.length := by rw [← Array.length_toList, hsp]; simp
        rw [run_bytesToString w ⟨η.adr id, off, none⟩ len _ ((xs.drop off).take len), foldl_push]
        · simp [ByteArray.empty, ByteArray.emptyWithCapacity]; rfl
        · rw [run_loadCells hc (by omega), take_drop_pre hsp (by simp; omega), List.map_take, List.map_drop]
      · exact h.elim
    · exact h.elim
  · rename_i el hs hd
    split at h
    · rename_i he
      obtain ⟨rfl, _⟩ := h
      refine ⟨w, η, ?_, hR, η.like_refl p⟩
      simp only [SV.den]
      rw [run_convert_bytes_string w s d el _ 0 _ hs he hd]
      rfl
    · exact h.elim
  · exact h.elim
end Go.Sx
