import Derived.Test.YtmeebemkoakkmaaGreatDoorSxL
set_option linter.all false
/-
  What an operation hangs on.
-/
noncomputable section
namespace Go.Sx
open Go

def SV.pid : SV → List Nat
  | .ptr id _ => [id]
  | .pti id _ _ _ _ => [id]
  | .sl id _ _ _ => [id]
  | _ => []

section
variable {P : Program}

theorem map_loc {α β : Type} {l : List α} {f g : α → β} (h : ∀ x ∈ l, f x = g x) : l.map f = l.map g := List.map_congr_left h

theorem pureOp_loc {ρ ρ' : Operand → SV} {op : Op} (h : ∀ x ∈ op.operands.toList, ρ x = ρ' x) : pureOp P ρ op = pureOp P ρ' op := by
  cases op <;> simp only [pureOp]
  case move x => rw [h x (by simp [Op.operands])]
  case assign x => rw [h x (by simp [Op.operands])]
  case pick c a b => rw [h c (by simp [Op.operands]), h a (by simp [Op.operands]), h b (by simp [Op.operands])]
  case build t parts =>
    rw [map_loc (f := fun x : Nat × Operand => (x.1, ρ x.2)) (g := fun x => (x.1, ρ' x.2)) fun x hx => by rw [h x.2 (by simp [Op.operands]; exact ⟨x.1, by simpa using hx⟩)]]
  case nilCheck x => rw [h x (by simp [Op.operands])]
  case binOp op t x y yt => rw [h x (by simp [Op.operands]), h y (by simp [Op.operands])]
  case unOp op t x => rw [h x (by simp [Op.operands])]
  case convert s d x => rw [h x (by simp [Op.operands])]
  case makeInterface t x => rw [h x (by simp [Op.operands])]
  case makeFunc fn f c =>
    rw [map_loc (l := f.toList) (f := ρ) (g := ρ') fun x hx => h x (by simp [Op.operands]; exact .inl (by simpa using hx)), map_loc (l := c.toList) (f := ρ) (g := ρ') fun x hx => h x (by simp [Op.operands]; exact .inr (by simpa using hx))]
  case fieldAddr s x f => rw [h x (by simp [Op.operands])]
  case field s x f => rw [h x (by simp [Op.operands])]
  case indexAddr t x i => rw [h x (by simp [Op.operands]), h i (by simp [Op.operands])]
  case index t x i => rw [h x (by simp [Op.operands]), h i (by simp [Op.operands])]
  case slice t x lo hi mx =>
    cases mx with
    | some m => rfl
    | none =>
      dsimp only
      rw [h x (by simp [Op.operands])]
      have h1 : lo.map ρ = lo.map ρ' := by cases lo with | none => rfl | some y => simp [h y (by simp [Op.operands])]
      have h2 : hi.map ρ = hi.map ρ' := by cases hi with | none => rfl | some y => simp [h y (by simp [Op.operands])]
      rw [h1, h2]
  case extract t i => rw [h t (by simp [Op.operands])]
  case typeAssert x xT T ok => rw [h x (by simp [Op.operands])]
  case call c =>
    obtain ⟨callee, args, argTypes⟩ := c
    cases callee with
    | value f => rfl
    | invoke r m => rfl
    | builtin b =>
      dsimp only
      rw [map_loc (l := args.toList) (f := ρ) (g := ρ') fun x hx => h x (by simp [Op.operands, Call.operands]; simpa using hx)]

theorem calleeS_loc {ρ ρ' : Operand → SV} {op : Op} (h : ∀ x ∈ op.operands.toList, ρ x = ρ' x) : calleeS ρ op = calleeS ρ' op := by
  cases op <;> simp only [calleeS]
  rename_i c
  obtain ⟨callee, args, argTypes⟩ := c
  cases callee with
  | value f =>
    dsimp only
    rw [h f (by simp [Op.operands, Call.operands]), map_loc (l := args.toList) (f := ρ) (g := ρ') fun x hx => h x (by simp [Op.operands, Call.operands]; exact .inr (by simpa using hx))]
  | invoke r m => rfl
  | builtin b => rfl

variable {g g' : Nat → Option Blk}
theorem loadS_loc {t : TypeId} {p : SV} (h : ∀ i ∈ p.pid, g i = g' i) : loadS P t p g = loadS P t p g' := by
  unfold loadS
  split <;> simp_all [SV.pid]
theorem storeS_loc {t : TypeId} {p v : SV} (h : ∀ i ∈ p.pid, g i = g' i) : storeS P t p v g = storeS P t p v g' := by
  unfold storeS
  split <;> simp_all [SV.pid]
theorem loadX_loc {t : TypeId} {p : SV} (h : ∀ i ∈ p.pid, g i = g' i) : loadX P t p g = loadX P t p g' := by
  unfold loadX
  split
  · rw [h _ (by simp [SV.pid])]
  · exact loadS_loc h
theorem storeX_loc {t : TypeId} {p v : SV} (h : ∀ i ∈ p.pid, g i = g' i) : storeX P t p v g = storeX P t p v g' := by
  unfold storeX
  split
  · rw [h _ (by simp [SV.pid])]
  · exact storeS_loc h
theorem convMemS_loc {s d : TypeId} {x : SV} {key : Nat} (h : ∀ i ∈ x.pid, g i = g' i) : convMemS P s d x g key = convMemS P s d x g' key := by
  unfold convMemS
  split <;> simp_all [SV.pid]
theorem srcS_loc {x : SV} (h : ∀ i ∈ x.pid, g i = g' i) : srcS x g = srcS x g' := by
  cases x <;> simp_all [srcS, SV.pid]
theorem dstS_loc {x : SV} (h : ∀ i ∈ x.pid, g i = g' i) : dstS x g = dstS x g' := by
  unfold dstS
  split <;> simp_all [SV.pid]
theorem resliceS_loc {t : TypeId} {x : SV} {lo hi : Option SV} (h : ∀ i ∈ x.pid, g i = g' i) : resliceS P t x lo hi g = resliceS P t x lo hi g' := by
  unfold resliceS
  split <;> simp_all [SV.pid]
theorem copyS_loc {t : TypeId} {d x : SV} (h : ∀ i ∈ d.pid, g i = g' i) (h' : ∀ i ∈ x.pid, g i = g' i) : copyS P t d x g = copyS P t d x g' := by
  unfold copyS
  rw [srcS_loc h']
  split <;> simp_all [SV.pid]
theorem appendS_loc {t u : TypeId} {s x : SV} {key : Nat} (h : ∀ i ∈ s.pid, g i = g' i) (h' : ∀ i ∈ x.pid, g i = g' i) : appendS P t u s x g key = appendS P t u s x g' key := by
  have e1 := srcS_loc h'
  have e2 := dstS_loc h
  unfold appendS
  rw [e1]
  cases s <;> first | rfl | (simp only [e2])

def memNeed (ρ : Operand → SV) : Op → List Nat
  | .load _ a => (ρ a).pid
  | .store _ a _ => (ρ a).pid
  | .convert _ _ x => (ρ x).pid
  | .slice _ x _ _ _ => (ρ x).pid
  | .call { callee := .builtin _, args, .. } => args.toList.flatMap fun x => (ρ x).pid
  | _ => []

theorem memOp_loc {ρ ρ' : Operand → SV} {op : Op} {key : Nat} (h : ∀ x ∈ op.operands.toList, ρ x = ρ' x) (hg : ∀ i ∈ memNeed ρ op, g i = g' i) : memOp P ρ g key op = memOp P ρ' g' key op := by
  cases op <;> simp only [memOp]
  case load t a => rw [← h a (by simp [Op.operands])]; exact loadX_loc hg
  case store t a v => rw [← h a (by simp [Op.operands]), ← h v (by simp [Op.operands])]; exact storeX_loc hg
  case box t v => rw [h v (by simp [Op.operands])]
  case buildSlice t n parts =>
    rw [map_loc (f := fun x : Nat × Operand => (x.1, ρ x.2)) (g := fun x => (x.1, ρ' x.2)) fun x hx => by rw [h x.2 (by simp [Op.operands]; exact ⟨x.1, by simpa using hx⟩)]]
  case makeSlice t l c => rw [h l (by simp [Op.operands]), h c (by simp [Op.operands])]
  case convert s d x => rw [← h x (by simp [Op.operands])]; exact convMemS_loc hg
  case slice t x lo hi mx =>
    cases mx with
    | some m => rfl
    | none =>
      dsimp only
      rw [← h x (by simp [Op.operands])]
      have h1 : lo.map ρ = lo.map ρ' := by cases lo with | none => rfl | some y => simp [h y (by simp [Op.operands])]
      have h2 : hi.map ρ = hi.map ρ' := by cases hi with | none => rfl | some y => simp [h y (by simp [Op.operands])]
      rw [← h1, ← h2]
      exact resliceS_loc hg
  case call c =>
    obtain ⟨callee, args, argTypes⟩ := c
    cases callee with
    | value f => rfl
    | invoke r m => rfl
    | builtin b =>
      have hmap : args.toList.map ρ = args.toList.map ρ' := map_loc fun x hx => h x (by simp [Op.operands, Call.operands]; simpa using hx)
      have hg' : ∀ v ∈ args.toList.map ρ, ∀ i ∈ v.pid, g i = g' i := fun v hv i hi => by
        obtain ⟨x, hx, rfl⟩ := List.mem_map.1 hv
        exact hg i (by simp only [memNeed, List.mem_flatMap]; exact ⟨x, hx, hi⟩)
      cases b <;> first | rfl | skip
      · dsimp only
        rw [← hmap]
        split
        · rename_i hx; exact appendS_loc (hg' _ (by rw [hx]; simp)) (hg' _ (by rw [hx]; simp))
        · rfl
      · dsimp only
        rw [← hmap]
        split
        · rename_i hx; exact copyS_loc (hg' _ (by rw [hx]; simp)) (hg' _ (by rw [hx]; simp))
        · rfl

/-! an operation among others whose order is open -/
abbrev Ctab := FuncId → Option FC

def opD (P : Program) (Γ : Ctab) (ρ : Operand → SV) (g : Nat → Option Blk) (key : Nat) (op : Op) : Res :=
  match pureOp P ρ op with
  | .fail => match calleeS ρ op with
    | some (.fn f, vs) => match Γ f with
      | some C => C.res key g vs
      | none => .fail
    | some (.yl _, _) => .fail
    | none => memOp P ρ g key op
  | r => r
def needD (P : Program) (Γ : Ctab) (ρ : Operand → SV) (g : Nat → Option Blk) (op : Op) : List Nat :=
  match pureOp P ρ op with
  | .fail => match calleeS ρ op with
    | some (.fn f, vs) => match Γ f with
      | some C => C.need g vs
      | none => []
    | some (.yl _, _) => []
    | none => memNeed ρ op
  | _ => []
theorem opD_loc {Γ : Ctab} {ρ ρ' : Operand → SV} {op : Op} {key : Nat} (h : ∀ x ∈ op.operands.toList, ρ x = ρ' x) (hg : ∀ i ∈ needD P Γ ρ g op, g i = g' i) : opD P Γ ρ g key op = opD P Γ ρ' g' key op := by
  unfold opD
  unfold needD at hg
  rw [← pureOp_loc h, ← calleeS_loc h]
  split
  · rename_i hp
    rw [hp] at hg
    simp only at hg
    split
    · rename_i f vs hc
      rw [hc] at hg
      simp only at hg
      split
      · rename_i C hC
        rw [hC] at hg
        exact C.loc key g g' vs hg
      · rfl
    · rfl
    · rename_i hc
      rw [hc] at hg
      exact memOp_loc h hg
  · rfl
/-- the values told otherwise -/
def Res.mapV (f : SV → SV) : Res → Res
  | .fail => .fail
  | .one e => .one { e with val := f e.val }
  | .alt c e r => .alt c { e with val := f e.val } (r.mapV f)
theorem Res.mapV_sat {f : SV → SV} : ∀ {r : Res} {e' : Eff}, (r.mapV f).sat e' → ∃ e, r.sat e ∧ e' = { e with val := f e.val }
  | .fail, _, h => h.elim
  | .one e, _, h => ⟨e, ⟨rfl, h.2⟩, h.1⟩
  | .alt c e r, _, h => by
    rcases h with ⟨hc, h1, h2⟩ | ⟨hc, h1⟩
    · exact ⟨e, .inl ⟨hc, rfl, h2⟩, h1⟩
    · obtain ⟨e0, h2, h3⟩ := Res.mapV_sat h1
      exact ⟨e0, .inr ⟨hc, h2⟩, h3⟩
def opX (P : Program) (fx : SV → SV) (Γ : Ctab) (ρ : Operand → SV) (g : Nat → Option Blk) (key : Nat) (op : Op) : Res := (opD P Γ ρ g key op).mapV fx
theorem opX_loc {fx : SV → SV} {Γ : Ctab} {ρ ρ' : Operand → SV} {op : Op} {key : Nat} (h : ∀ x ∈ op.operands.toList, ρ x = ρ' x) (hg : ∀ i ∈ needD P Γ ρ g op, g i = g' i) : opX P fx Γ ρ g key op = opX P fx Γ ρ' g' key op := by
  unfold opX; rw [opD_loc h hg]
end
end Go.Sx
