import Derived.Test.YtmeebemkoakkmaaGreatDoorSxD2
set_option linter.all false
noncomputable section
namespace Go.Sx
open Go

def pickS (c a b : SV) : Res :=
  match c.asB with
  | none => .fail
  | some (true, c) => .one ⟨[], if c then a else b, []⟩
  | some (false, c) =>
    match a, b with
    | .tup [], _ => .one ⟨[c = false], b, []⟩
    | _, .tup [] => .one ⟨[c = true], a, []⟩
    | .str s, .str t => .one ⟨[], .str (if c then s else t), []⟩
    | _, _ => match a.asB, b.asB with
      | some (_, x), some (_, y) => .one ⟨[], .bool (if c then x else y), []⟩
      | _, _ => match a.asI, b.asI with
        | some (_, k, x), some (_, k', y) => if k = k' then .one ⟨[], .int k (if c then x else y), []⟩ else .fail
        | _, _ => .alt (c = true) ⟨[], a, []⟩ (.one ⟨[], b, []⟩)

theorem pickS_sound {η : Env} {P : Program} {w : World} {c a b : SV} {e : Eff} (h : (pickS c a b).sat e) :
    e.sets = [] ∧ (do pure (if ← asBool (c.den η) then (a.den η) else (b.den η)) : Sem Value).run P w = .ok (e.val.den η) w := by
  unfold pickS at h
  split at h
  · exact h.elim
  · rename_i c' hc
    obtain ⟨rfl, _⟩ := h
    refine ⟨rfl, ?_⟩
    rw [SV.asB_den hc]; simp only [asBool, Sem.run_bind, Sem.run_pure, Result.andThen_ok]; cases c' <;> rfl
  · rename_i c' hc
    rw [SV.asB_den hc]; simp only [asBool, Sem.run_bind, Sem.run_pure, Result.andThen_ok]
    split at h
    · obtain ⟨rfl, ho⟩ := h
      have : c' = false := ho _ (List.mem_singleton.2 rfl)
      subst this; exact ⟨rfl, rfl⟩
    · obtain ⟨rfl, ho⟩ := h
      have : c' = true := ho _ (List.mem_singleton.2 rfl)
      subst this; exact ⟨rfl, rfl⟩
    · obtain ⟨rfl, _⟩ := h
      refine ⟨rfl, ?_⟩
      cases c' <;> rfl
    · split at h
      · rename_i hx hy
        obtain ⟨rfl, _⟩ := h
        refine ⟨rfl, ?_⟩
        rw [SV.asB_den hx, SV.asB_den hy]; cases c' <;> rfl
      · split at h
        · rename_i hx hy
          split at h
          · rename_i hk; subst hk
            obtain ⟨rfl, _⟩ := h
            refine ⟨rfl, ?_⟩
            rw [SV.asI_den hx, SV.asI_den hy]; cases c' <;> rfl
          · exact h.elim
        · rcases h with ⟨h1, rfl, _⟩ | ⟨h1, rfl, _⟩
          · subst h1; exact ⟨rfl, rfl⟩
          · have : c' = false := by cases c' <;> simp at h1 ⊢
            subst this; exact ⟨rfl, rfl⟩

def unS (op : UnOp) (x : SV) : Option SV :=
  match op, x.asI, x.asB with
  | .neg, some (l, k, n), _ => some (mkI l k (k.wrap (0 - n)))
  | .xor, some (l, k, n), _ => some (mkI l k (bitI .xor k (if k.signed then -1 else k.max) n))
  | .not, _, some (l, b) => some (mkB l !b)
  | _, _, _ => none
theorem unS_sound {η : Env} {P : Program} {w : World} {op : UnOp} {x v : SV} (h : unS op x = some v) : (Op.unary op (x.den η)).run P w = .ok (v.den η) w := by
  unfold unS at h
  split at h
  · rename_i hx; simp only [Option.some.injEq] at h; subst h; rw [SV.asI_den hx]; simp [Op.unary, Op.intArith]
  · rename_i hx; simp only [Option.some.injEq] at h; subst h; rw [SV.asI_den hx]; simp [Op.unary, Op.intBits, bitI]
  · rename_i hx; simp only [Option.some.injEq] at h; subst h; rw [SV.asB_den hx]; simp [Op.unary]
  · cases h

def convS (P : Program) (s d : TypeId) (x : SV) : Option SV :=
  match P.underlying s, P.underlying d, x.asI, x with
  | some _, some (.int k), some (l, _, n), _ => some (mkI l k (k.wrap n))
  | some .string, some .string, _, .str t => some (.str t)
  | _, _, _, _ => none
theorem convS_sound {η : Env} {P : Program} {w : World} {s d : TypeId} {x v : SV} (h : convS P s d x = some v) : (convert s d (x.den η)).run P w = .ok (v.den η) w := by
  unfold convS at h
  split at h
  · rename_i ds l k n hs hd hx
    simp only [Option.some.injEq] at h; subst h
    rw [SV.asI_den hx]
    unfold convert
    simp only [Sem.run_bind, run_underlying hs, run_underlying hd, Result.andThen_ok]
    cases ds <;> simp [Conv.intToInt]
  · rename_i t hs hd
    simp only [Option.some.injEq] at h; subst h
    unfold convert
    simp only [Sem.run_bind, run_underlying hs, run_underlying hd, Result.andThen_ok, SV.den, Sem.run_pure]
  · cases h

def lenS (P : Program) (t : TypeId) (x : SV) : Option SV :=
  match P.underlying t, x with
  | some .string, .str s => some (.int .i64 s.length)
  | some (.array n _), _ => some (.lit .i64 n)
  | some (.slice _), .sl _ _ n _ => some (.int .i64 n)
  | some (.slice _), .nils => some (.lit .i64 0)
  | _, _ => none
theorem lenS_sound {η : Env} {P : Program} {w : World} {t : TypeId} {x v : SV} (h : lenS P t x = some v) (ty : TypeId) : (Builtin.len_ #[t] ty #[(x.den η)]).run P w = .ok (v.den η) w := by
  unfold lenS at h
  split at h <;> first | cases h | skip
  all_goals rename_i hu
  all_goals unfold Builtin.len_
  all_goals simp only [List.getElem?_toArray, List.getElem?_cons_zero, Sem.run_bind, run_underlying hu, Result.andThen_ok, SV.den]
  all_goals rfl

def assertS (P : Program) (x : SV) (T : TypeId) (ok : Bool) : Option SV :=
  match P.underlying T, P.info? T, x with
  | some (.interface _), _, _ => none
  | some _, some i, .iface t v => match i.zero with
    | some z => if t = T then some (if ok then .tup [v, .lb true] else v) else if ok then some (.tup [ofV z, .lb false]) else none
    | none => none
  | some _, some i, .nili => match i.zero with
    | some z => if ok then some (.tup [ofV z, .lb false]) else none
    | none => none
  | _, _, _ => none
theorem assertS_sound {η : Env} {P : Program} {w : World} {x v : SV} {xT T : TypeId} {ok : Bool} (h : assertS P x T ok = some v) : (Instr.typeAssert (x.den η) xT T ok).run P w = .ok (v.den η) w := by
  unfold assertS at h
  split at h
  · cases h
  · rename_i d i t u hu hni hi
    have hu' : ∀ m, d ≠ .interface m := hu
    split at h
    · rename_i z hz
      unfold Instr.typeAssert
      simp only [Sem.run_bind, run_underlying hni, Result.andThen_ok, SV.den]
      split at h
      · rename_i ht; subst ht
        simp only [Option.some.injEq] at h; subst h
        cases d <;> first | exact absurd rfl (hu' _) | (cases ok <;> simp [SV.den, dens])
      · rename_i ht
        split at h
        · rename_i hok; subst hok
          simp only [Option.some.injEq] at h; subst h
          cases d <;> first | exact absurd rfl (hu' _) | simp [SV.den, dens, ht, run_zero hi hz, ofV_den]
        · cases h
    · cases h
  · rename_i d i hu hni hi
    have hu' : ∀ m, d ≠ .interface m := hu
    split at h
    · rename_i z hz
      unfold Instr.typeAssert
      simp only [Sem.run_bind, run_underlying hni, Result.andThen_ok, SV.den]
      split at h
      · rename_i hok; subst hok
        simp only [Option.some.injEq] at h; subst h
        cases d <;> first | exact absurd rfl (hu' _) | simp [SV.den, dens, run_zero hi hz, ofV_den]
      · cases h
    · cases h
  · cases h

def checkS : SV → Option SV
  | .ptr i o => some (.ptr i o)
  | .pti i o s n j => some (.pti i o s n j)
  | .fn (.func f) x c => some (.fn (.func f) x c)
  | .iface t v => some (.iface t v)
  | _ => none

def minS (x y : SV) : Option SV :=
  match x.asI, y.asI with
  | some (l, k, a), some (l', _, b) => some (mkI (l && l') k (if b < a then b else a))
  | _, _ => none
def maxS (x y : SV) : Option SV :=
  match x.asI, y.asI with
  | some (l, k, a), some (l', _, b) => some (mkI (l && l') k (if b > a then b else a))
  | _, _ => none

def faceS (P : Program) (t : TypeId) (x : SV) : Option SV :=
  match P.underlying t with
  | some (.interface _) => none
  | some _ => some (.iface t x)
  | none => none
def extractS (x : SV) (i : Nat) : Option SV :=
  match x with
  | .tup vs => vs[i]?
  | _ => none

def builtS (P : Program) (b : Builtin) (ts : List TypeId) (vs : List SV) : Option SV :=
  match b, ts, vs with
  | .len, [t], [x] => lenS P t x
  | .min, _, [x, y] => minS x y
  | .max, _, [x, y] => maxS x y
  | _, _, _ => none

def pureOp (P : Program) (ρ : Operand → SV) : Op → Res
  | .move x => .one ⟨[], ρ x, []⟩
  | .assign x => .one ⟨[], ρ x, []⟩
  | .pick c a b => pickS (ρ c) (ρ a) (ρ b)
  | .build t parts => .ofV (buildS P t (parts.toList.map fun x => (x.1, ρ x.2)))
  | .nilCheck x => .ofV (checkS (ρ x))
  | .binOp op t x y _ => .of (match binS P op t (ρ x) (ρ y) with | some r => some r | none => eqAggS P op t (isC x || isC y) (ρ x) (ρ y))
  | .unOp op _ x => .ofV (unS op (ρ x))
  | .convert s d x => .ofV (convS P s d (ρ x))
  | .makeInterface t x => .ofV (faceS P t (ρ x))
  | .makeFunc fn f c => .one ⟨[], .fn fn (f.toList.map ρ) (c.toList.map ρ), []⟩
  | .fieldAddr s x f => .ofV (fieldAddrS P s (ρ x) f)
  | .field t x f => .ofV (fieldS P t (ρ x) f)
  | .indexAddr t x i => indexAddrR P t (ρ x) (ρ i)
  | .index t x i => indexS P t (ρ x) (ρ i)
  | .slice t x lo hi none => .of (sliceS P t (ρ x) (lo.map ρ) (hi.map ρ))
  | .extract t i => .ofV (extractS (ρ t) i)
  | .typeAssert x _ T ok => .ofV (assertS P (ρ x) T ok)
  | .call { callee := .builtin b, args, argTypes } => .ofV (builtS P b argTypes.toList (args.toList.map ρ))
  | _ => .fail

theorem toArray_map {α β : Type} (f : α → β) (l : Array α) : (l.toList.map f).toArray = l.map f := by
  rw [← Array.toList_map]

theorem pureOp_sound {η : Env} {P : Program} {w : World} {ρ : Operand → SV} {o : Oper} {e : Eff} (h : (pureOp P ρ o.op).sat e) :
    e.sets = [] ∧ (execOp (fun x => ((ρ x).den η)) o).run P w = .ok (.value (e.val.den η)) w := by
  obtain ⟨dst, op, ty, pos, after, guard⟩ := o
  simp only at h
  unfold execOp
  cases op <;> simp only [pureOp] at h
  case move x => obtain ⟨rfl, _⟩ := h; exact ⟨rfl, rfl⟩
  case assign x => obtain ⟨rfl, _⟩ := h; exact ⟨rfl, rfl⟩
  case pick c a b =>
    obtain ⟨h1, h2⟩ := pickS_sound (η := η) (P := P) (w := w) h
    refine ⟨h1, ?_⟩
    simp only [Sem.run_bind, Sem.run_pure] at h2 ⊢
    cases hr : (asBool ((ρ c).den η)).run P w with
    | ok b w' => rw [hr] at h2; simp only [Result.andThen_ok, Result.ok.injEq] at h2 ⊢; exact ⟨by rw [← h2.1], h2.2⟩
    | halt x w' => rw [hr] at h2; simp only [Result.andThen_halt, reduceCtorEq] at h2
  case build t parts =>
    obtain ⟨h1, h2⟩ := Res.ofV_sat h
    have := buildS_sound (η := η) (w := w) h2
    rw [List.map_map, toArray_map] at this
    exact ⟨h1, by simp only [Sem.run_bind]; rw [show ((fun x : Nat × SV => (x.1, (x.2.den η))) ∘ fun x : Nat × Operand => (x.1, ρ x.2)) = fun x => (x.1, ((ρ x.2).den η)) from rfl] at this; rw [this]; rfl⟩
  case nilCheck x =>
    obtain ⟨h1, h2⟩ := Res.ofV_sat h
    refine ⟨h1, ?_⟩
    dsimp only
    cases hx : ρ x <;> rw [hx] at h2 <;> simp only [checkS, reduceCtorEq, Option.some.injEq] at h2
    · rw [← h2]; rfl
    · rw [← h2]; rfl
    · rename_i f x' c'
      cases f <;> simp only [reduceCtorEq, Option.some.injEq] at h2
      rw [← h2]; rfl
    · rw [← h2]; rfl
  case binOp op t x y yt =>
    obtain ⟨h1, h2, h3⟩ := Res.of_sat h
    refine ⟨h1, ?_⟩
    split at h2
    · rename_i r hb
      simp only [Option.some.injEq] at h2; subst h2
      rw [Sem.run_bind, binS_sound hb h3]; rfl
    · rw [Sem.run_bind, eqAggS_sound h2]; rfl
  case unOp op t x =>
    obtain ⟨h1, h2⟩ := Res.ofV_sat h
    exact ⟨h1, by rw [Sem.run_bind, unS_sound h2]; rfl⟩
  case convert s d x =>
    obtain ⟨h1, h2⟩ := Res.ofV_sat h
    exact ⟨h1, by rw [Sem.run_bind, convS_sound h2]; rfl⟩
  case makeInterface t x =>
    obtain ⟨h1, h2⟩ := Res.ofV_sat h
    refine ⟨h1, ?_⟩
    unfold faceS at h2
    split at h2
    · cases h2
    · rename_i d hni hu
      simp only [Option.some.injEq] at h2
      rw [← h2]
      simp only [Sem.run_bind, Instr.makeInterface, run_underlying hu, Result.andThen_ok]
      cases d <;> first | exact absurd rfl (hni _) | rfl
    · cases h2
  case makeFunc fn f c =>
    obtain ⟨rfl, _⟩ := h
    refine ⟨rfl, ?_⟩
    simp only [Sem.run_bind, Instr.makeFunc, Sem.run_pure, Result.andThen_ok, SV.den, dens_eq, List.map_map, toArray_map]
    rfl
  case fieldAddr s x f =>
    obtain ⟨h1, h2⟩ := Res.ofV_sat h
    exact ⟨h1, by rw [Sem.run_bind, fieldAddrS_sound h2]; rfl⟩
  case field s x f =>
    obtain ⟨h1, h2⟩ := Res.ofV_sat h
    exact ⟨h1, by rw [Sem.run_bind, fieldS_sound h2]; rfl⟩
  case indexAddr t x i =>
    obtain ⟨h1, h2⟩ := indexAddrR_sound (η := η) (w := w) h
    exact ⟨h1, by rw [Sem.run_bind, h2]; rfl⟩
  case index t x i =>
    obtain ⟨h1, h2⟩ := indexS_sound (η := η) (w := w) h
    exact ⟨h1, by rw [Sem.run_bind, h2]; rfl⟩
  case slice t x lo hi mx =>
    cases mx with
    | some m => exact h.elim
    | none =>
      obtain ⟨h1, h2, h3⟩ := Res.of_sat h
      have := sliceS_sound (η := η) (w := w) h2 h3
      rw [Option.map_map, Option.map_map] at this
      refine ⟨h1, ?_⟩
      rw [Sem.run_bind]
      erw [this]; rfl
  case extract t i =>
    obtain ⟨h1, h2⟩ := Res.ofV_sat h
    refine ⟨h1, ?_⟩
    unfold extractS at h2
    split at h2
    · rename_i vs hx
      dsimp only
      rw [hx]
      simp only [Sem.run_bind, SV.den, Instr.extract]
      have : (dens η vs).toArray[i]? = some (e.val.den η) := by simp [dens_get?, h2]
      rw [this]; rfl
    · cases h2
  case typeAssert x xT T ok =>
    obtain ⟨h1, h2⟩ := Res.ofV_sat h
    exact ⟨h1, by rw [Sem.run_bind, assertS_sound h2]; rfl⟩
  case call c =>
    obtain ⟨callee, args, argTypes⟩ := c
    cases callee with
    | value f => exact h.elim
    | invoke r m => exact h.elim
    | builtin b =>
      obtain ⟨h1, h2⟩ := Res.ofV_sat h
      refine ⟨h1, ?_⟩
      unfold builtS at h2
      split at h2
      · rename_i t x ht hx
        have ht' : argTypes = #[t] := by have := congrArg List.toArray ht; simpa using this
        have ha : args.map (fun x => ((ρ x).den η)) = #[(x.den η)] := by
          have := congrArg (List.map (SV.den η)) hx
          rw [List.map_map] at this
          rw [← toArray_map]
          exact congrArg List.toArray this
        simp only [resolve, Sem.run_bind, Sem.run_pure, Result.andThen_ok, invoke, builtin, ht', ha, lenS_sound h2]
      · rename_i x y hx
        have ha : args.map (fun x => ((ρ x).den η)) = #[(x.den η), (y.den η)] := by
          have := congrArg (List.map (SV.den η)) hx
          rw [List.map_map] at this
          rw [← toArray_map]
          exact congrArg List.toArray this
        unfold minS at h2
        split at h2
        · rename_i l k a l' k' b' hxa hyb
          simp only [Option.some.injEq] at h2
          simp only [resolve, Sem.run_bind, Sem.run_pure, Result.andThen_ok, invoke, builtin, ha, ← h2, mkI_den, SV.asI_den hxa, SV.asI_den hyb]
          simp [Builtin.min_, Builtin.min2]
        · cases h2
      · rename_i x y hx
        have ha : args.map (fun x => ((ρ x).den η)) = #[(x.den η), (y.den η)] := by
          have := congrArg (List.map (SV.den η)) hx
          rw [List.map_map] at this
          rw [← toArray_map]
          exact congrArg List.toArray this
        unfold maxS at h2
        split at h2
        · rename_i l k a l' k' b' hxa hyb
          simp only [Option.some.injEq] at h2
          simp only [resolve, Sem.run_bind, Sem.run_pure, Result.andThen_ok, invoke, builtin, ha, ← h2, mkI_den, SV.asI_den hxa, SV.asI_den hyb]
          simp [Builtin.max_, Builtin.max2]
        · cases h2
      · cases h2
  all_goals exact h.elim
end Go.Sx
