import Derived.Test.YtmeebemkoakkmaaGreatDoorSxO
set_option linter.all false
noncomputable section
namespace Go.Sx
open Go

section
variable {P : Program} {Γ : Ctab} {ops : Array Oper} {E : List SR} {σ0 : St} {k0 : Nat}

theorem ready_iff {listed : Array Bool} {i : Nat} (h : i ∈ Region.ready .any ops listed) :
    i < ops.size ∧ listed.getD i true = false ∧ ∃ o, ops[i]? = some o ∧ ∀ e ∈ o.after, Region.binds .any e = true → listed.getD e.on false = true := by
  unfold Region.ready at h
  obtain ⟨h1, h2⟩ := List.mem_filter.1 h
  rw [List.mem_range] at h1
  simp only [Bool.and_eq_true, Bool.not_eq_true'] at h2
  refine ⟨h1, h2.1, ?_⟩
  cases ho : ops[i]? with
  | none => rw [ho] at h2; simp at h2
  | some o =>
    rw [ho] at h2
    refine ⟨o, rfl, fun e he hb => ?_⟩
    have h3 := h2.2
    simp only [Option.map_some, Option.getD_some] at h3
    rw [Array.all_eq_true_iff_forall_mem] at h3
    have := h3 e he
    simp only [Bool.or_eq_true, Bool.not_eq_true'] at this
    rcases this with h | h
    · rw [hb] at h; cases h
    · exact h

theorem ready_min {listed : Array Bool} {i : Nat} (hi : i < ops.size) (hl : listed.getD i true = false) (hd : ∀ d ∈ depsOf ops i, listed.getD d false = true) : i ∈ Region.ready .any ops listed := by
  unfold Region.ready
  refine List.mem_filter.2 ⟨List.mem_range.2 hi, ?_⟩
  simp only [hl, Bool.not_false, Bool.true_and]
  have ho : ops[i]? = some ops[i] := Array.getElem?_eq_getElem hi
  rw [ho]
  simp only [Option.map_some, Option.getD_some]
  rw [Array.all_eq_true_iff_forall_mem]
  intro e he
  simp only [Bool.or_eq_true, Bool.not_eq_true']
  cases hb : Region.binds .any e with
  | false => exact .inl rfl
  | true =>
    refine .inr (hd e.on ?_)
    simp only [depsOf, ho, List.mem_map, List.mem_filter]
    exact ⟨e, ⟨by simpa using he, hb⟩, rfl⟩

structure Checked (ops : Array Oper) (k0 : Nat) (E : List SR) : Prop where
  deps : ∀ j, j < ops.size → ∀ d ∈ depsOf ops j, d < j
  conf : ∀ i j, i < j → j < ops.size → confl ops E i j = true → i ∈ anc (ancs ops ops.size) j
  frs : ∀ j, j < ops.size → (E[j]?.getD SR.skip).fr = true → ∀ i, i < ops.size → i ≠ j → (eOf E i).fresh (rng (k0 + 1048576 * j)) = true ∨ j ∈ anc (ancs ops ops.size) i
  eff : ∀ j, j < ops.size → (eOf E j).fresh (ge (k0 + 1048576 * ops.size)) = true
theorem checked_of (h : checkD ops k0 E = true) : Checked ops k0 E := by
  unfold checkD at h
  rw [List.all_eq_true] at h
  refine ⟨fun j hj d hd => ?_, fun i j hij hj hc => ?_, fun j hj hf => ?_, fun j hj => ?_⟩
  · have := h j (List.mem_range.2 hj)
    simp only [Bool.and_eq_true] at this
    have := List.all_eq_true.1 this.1.1.1 d hd
    simpa using this
  · have := h j (List.mem_range.2 hj)
    simp only [Bool.and_eq_true] at this
    have := List.all_eq_true.1 this.1.1.2 i (List.mem_range.2 hij)
    rw [hc] at this
    simpa using this
  · have := h j (List.mem_range.2 hj)
    simp only [Bool.and_eq_true] at this
    have := this.1.2
    rw [hf] at this
    simp only [Bool.not_true, Bool.false_or] at this
    intro i hi hij
    have := List.all_eq_true.1 this i (List.mem_range.2 hi)
    simp only [Bool.or_eq_true, beq_iff_eq, List.contains_iff_mem] at this
    rcases this with (h | h) | h
    · exact absurd h hij
    · exact .inl h
    · exact .inr h
  · have := h j (List.mem_range.2 hj)
    simp only [Bool.and_eq_true] at this
    exact this.2

theorem anc_deps (hc : Checked ops k0 E) {i : Nat} (hi : i < ops.size) {l : List Nat} (hd : ∀ d ∈ depsOf ops i, d ∈ l) (hcl : ∀ x ∈ l, ∀ y ∈ anc (ancs ops ops.size) x, y ∈ l) : ∀ x ∈ anc (ancs ops ops.size) i, x ∈ l := by
  intro x hx
  rw [ancs_get ops ops.size i hi, mem_uni] at hx
  replace hx := hx.resolve_right (by simp)
  rcases List.mem_append.1 hx with hx | hx
  · exact hd x hx
  · obtain ⟨d, hd1, hd2⟩ := List.mem_flatMap.1 hx
    have hlt := hc.deps i hi d hd1
    refine hcl d (hd d hd1) x ?_
    unfold anc
    rw [ancs_prefix ops ops.size i d hlt (by omega)]
    exact hd2

theorem tmLook {σ σ' : St} {o : Oper} (h : ∀ t ∈ o.looksAt ops, σ.tm[t]? = σ'.tm[t]?) : (∀ x ∈ o.op.operands.toList, σ.ev x = σ'.ev x) ∧ wantS ops σ o = wantS ops σ' o := by
  refine ⟨fun x hx => ?_, ?_⟩
  · cases x with
    | tmp t =>
      simp only [St.ev, List.nthK_eq]
      rw [h t (by unfold Oper.looksAt; exact List.mem_append.2 (.inl (List.mem_filterMap.2 ⟨.tmp t, hx, rfl⟩)))]
    | const v => rfl
    | global g => rfl
    | func f => rfl
  · unfold wantS
    cases hg : o.guard with
    | none => rfl
    | some x =>
      obtain ⟨j, want⟩ := x
      simp only
      have : gval ops σ j = gval ops σ' j := by
        unfold gval
        cases hd : (ops[j]?).bind (·.dst) with
        | none => rfl
        | some d =>
          simp only [List.nthK_some]
          exact h d (by unfold Oper.looksAt; rw [hg]; simp only; rw [hd]; simp)
      rw [this]

theorem draw_any {fx : SV → SV} (hfx : FixOk fx) {GB : Base → Prop} (hΓ : CtabOk P GB Γ) {r : Option Nat} {B : Base} (hB : GB B) {η : Env} {Q : Exit → Act → World → Prop} (hc : Checked ops k0 E) (hf0 : σ0.fresh (ge k0) = true)
    (hrun : ∀ j, j < ops.size → ranOK P fx Γ ops k0 (stL ops E σ0 (List.range j)) j (E[j]?.getD SR.skip))
    (hQ : ∀ η' a w, Rep B η' (stL ops E σ0 (List.range ops.size)) a w → η.like η' (ge k0) → Q .normal a w) :
    ∀ (fuel : Nat) (l : List Nat) (listed : Array Bool) (η' : Env) (a : Act) (w : World), Good (ancs ops ops.size) ops.size l → listed.size = ops.size → (∀ i, i < ops.size → listed.getD i true = decide (i ∈ l)) →
      fuel + l.length = ops.size → Rep B η' (stL ops E σ0 l) a w → η.like η' (ge k0) → wpAnyIn (FR r) 0 P .any ops Q fuel listed a w := by
  have hWt : ∀ t a b, a < b → b < ops.size → wT ops t a = true → wT ops t b = true → a ∈ anc (ancs ops ops.size) b := fun t a b hab hb h1 h2 => by
    refine hc.conf a b hab hb ?_
    simp only [wT, beq_iff_eq] at h1 h2
    simp [confl, h1, h2]
  have hWh : ∀ t a b, a < b → b < ops.size → wH E t a = true → wH E t b = true → a ∈ anc (ancs ops ops.size) b := fun t a b hab hb h1 h2 => by
    refine hc.conf a b hab hb ?_
    have : meets (setsOf E a) (setsOf E b) = true := List.any_eq_true.2 ⟨t, by simpa [wH] using h1, h2⟩
    simp [confl, this]
  have hfin : ∀ l, Good (ancs ops ops.size) ops.size l → (∀ x, x < ops.size → x ∈ l) → ∀ η' a w, Rep B η' (stL ops E σ0 l) a w → η.like η' (ge k0) → Q .normal a w := fun l hg hall η' a w hR hl =>
    hQ η' a w (hR.alike (by rw [stL_len, stL_len]) (fun t => (tm_same (hg.full hall _ (hWt t))).symm) (fun j => (hp_same (hg.full hall _ (hWh j))).symm) (fun j => by
      rw [stL_lget, stL_lget]
      have : (List.range ops.size).any (wH E j) = l.any (wH E j) := by
        rw [Bool.eq_iff_iff, List.any_eq_true, List.any_eq_true]
        exact ⟨fun ⟨x, h1, h2⟩ => ⟨x, hall x (List.mem_range.1 h1), h2⟩, fun ⟨x, h1, h2⟩ => ⟨x, List.mem_range.2 (hg.lt x h1), h2⟩⟩
      rw [this]) (by rw [stL_df, stL_df])) hl
  have hlen : ∀ l, Good (ancs ops ops.size) ops.size l → l.length = ops.size → ∀ x, x < ops.size → x ∈ l := fun l hg hle x hx => by
    refine Classical.byContradiction fun hn => ?_
    have h1 : (x :: l).Nodup := List.nodup_cons.2 ⟨hn, hg.nodup⟩
    have h2 : (x :: l) ⊆ List.range ops.size := fun y hy => by
      rcases List.mem_cons.1 hy with rfl | hy
      · exact List.mem_range.2 hx
      · exact List.mem_range.2 (hg.lt y hy)
    have := List.Nodup.length_le_of_subset h1 h2
    simp at this; omega
  have hgetD : ∀ (listed : Array Bool) (l : List Nat), listed.size = ops.size → (∀ i, i < ops.size → listed.getD i true = decide (i ∈ l)) → ∀ d, d < ops.size → (listed.getD d false = true ↔ d ∈ l) := fun listed l hs hl d hd => by
    have := hl d hd
    have hlt : d < listed.size := by omega
    simp only [Array.getD_eq_getD_getElem?, Array.getElem?_eq_getElem hlt, Option.getD_some] at this ⊢
    rw [this]; simp
  intro fuel
  induction fuel with
  | zero =>
    intro l listed η' a w hg hs hl hf hR hlk
    have hall := hlen l hg (by omega)
    refine ⟨?_, hfin l hg hall η' a w hR hlk⟩
    refine List.eq_nil_iff_forall_not_mem.2 fun i hi => ?_
    obtain ⟨h1, h2, _⟩ := ready_iff hi
    rw [hl i h1] at h2
    simp [hall i h1] at h2
  | succ fuel ih =>
    intro l listed η' a w hg hs hl hf hR hlk
    refine ⟨fun hnil => ?_, fun i hi => ?_⟩
    · exfalso
      have hex : ∃ x, x < ops.size ∧ x ∉ l := Classical.byContradiction fun hn => by
        have hall : ∀ x, x < ops.size → x ∈ l := fun x hx => Classical.byContradiction fun h => hn ⟨x, hx, h⟩
        have := List.Nodup.length_le_of_subset (List.nodup_range (n := ops.size)) (l₂ := l) (fun x hx => hall x (List.mem_range.1 hx))
        simp at this; omega
      have key : ∀ m x, x < m → x < ops.size → x ∉ l → False := by
        intro m
        induction m with
        | zero => intro x hx; omega
        | succ m ihm =>
          intro x hx hxs hxl
          have : x ∈ Region.ready .any ops listed := ready_min hxs (by rw [hl x hxs]; simp [hxl]) fun d hdd => by
            have hdx := hc.deps x hxs d hdd
            rw [hgetD listed l hs hl d (by omega)]
            exact Classical.byContradiction fun hn => ihm d (by omega) (by omega) hn
          rw [hnil] at this; cases this
      obtain ⟨x, hx1, hx2⟩ := hex
      exact key (x + 1) x (by omega) hx1 hx2
    · obtain ⟨hin, hil, o, ho, haf⟩ := ready_iff hi
      have hni : i ∉ l := by rw [hl i hin] at hil; simpa using hil
      have hdl : ∀ d ∈ depsOf ops i, d ∈ l := fun d hdd => by
        have hdx := hc.deps i hin d hdd
        simp only [depsOf, ho, List.mem_map, List.mem_filter] at hdd
        obtain ⟨e, ⟨he1, he2⟩, rfl⟩ := hdd
        exact (hgetD listed l hs hl _ (by omega)).1 (haf e (by simpa using he1) he2)
      have hal : ∀ x ∈ anc (ancs ops ops.size) i, x ∈ l := anc_deps hc hin hdl hg.closed
      have hg' := hg.snoc hni hin hal
      have hreads : readsOf ops i = o.looksAt ops := by simp [readsOf, ho]
      have hdst : dstOf ops i = o.dst := by simp [dstOf, ho]
      have htm : ∀ t ∈ o.looksAt ops, (stL ops E σ0 l).tm[t]? = (stL ops E σ0 (List.range i)).tm[t]? := fun t ht => by
        refine tm_same (hg.reads hni hin hal _ (hWt t) (fun x hx hW => hc.conf x i hx hin ?_) (fun x hx hxs hW => hc.conf i x hx hxs ?_))
        · simp only [wT, beq_iff_eq] at hW
          simp [confl, hW, hreads, ht]
        · simp only [wT, beq_iff_eq] at hW
          simp [confl, hW, hreads, ht]
      obtain ⟨hev, hws⟩ := tmLook htm
      have hnext : ∀ η2 a2 w2, Rep B η2 (stL ops E σ0 (l ++ [i])) a2 w2 → η.like η2 (ge k0) → wpAnyIn (FR r) 0 P .any ops Q fuel (listed.setIfInBounds i true) a2 w2 := fun η2 a2 w2 hR2 hlk2 =>
        ih (l ++ [i]) _ η2 a2 w2 hg' (by simpa using hs) (fun j hj => by
          rw [Array.getD_eq_getD_getElem?, Array.getElem?_setIfInBounds]
          by_cases hij : i = j
          · subst hij; simp [hs, hin]
          · rw [if_neg hij, ← Array.getD_eq_getD_getElem?, hl j hj]
            simp [Ne.symm hij]) (by simp; omega) hR2 hlk2
      obtain ⟨o', ho', hr⟩ := hrun i hin
      rw [ho] at ho'; simp only [Option.some.injEq] at ho'; subst ho'
      have hW := wantS_sound (ops := ops) (o := o) hR
      unfold wpOpIn
      rw [ho]
      simp only
      rcases hr with ⟨hwy, hsat, hneed, hfr⟩ | ⟨hwn, hskip⟩
      · have hwant : Region.wanted o (yielded ops a.tmps) = true := by
          rcases hwy with hw | ⟨b, want, hw, hb⟩
          · exact hW.1 (by rw [hws]; exact hw)
          · rw [hW.2.2 b want (by rw [hws]; exact hw)]; simpa using hb
        rw [if_pos hwant]
        have heE : (E[i]?.getD SR.skip).e = eOf E i := rfl
        have hnN : (E[i]?.getD SR.skip).need = needOf E i := rfl
        have hhp : ∀ j ∈ needD P Γ (stL ops E σ0 (List.range i)).ev (hget (stL ops E σ0 (List.range i)).hp) o.op, hget (stL ops E σ0 (List.range i)).hp j = hget (stL ops E σ0 l).hp j := fun j hj => by
          have hjn : j ∈ needOf E i := by rw [← hnN, hneed]; exact hj
          refine (hp_same (hg.reads hni hin hal _ (hWh j) (fun x hx hW => hc.conf x i hx hin ?_) (fun x hx hxs hW => hc.conf i x hx hxs ?_))).symm
          · have : meets (setsOf E x) (needOf E i) = true := List.any_eq_true.2 ⟨j, by simpa [wH] using hW, by simpa using hjn⟩
            simp [confl, this]
          · have : meets (needOf E i) (setsOf E x) = true := List.any_eq_true.2 ⟨j, hjn, hW⟩
            simp [confl, this]
        have hloc := opX_loc (fx := fx) (P := P) (Γ := Γ) (key := k0 + 1048576 * i) (fun x hx => (hev x hx).symm) hhp
        obtain ⟨e0, hsat, u, he, hud, hum⟩ := hsat
        rw [hloc] at hsat
        rw [heE] at he
        refine opX_wp hfx hΓ hB hsat hR (fun hpf => ?_) fun η2 a2 w2 hR2 hlk2 => ?_
        · have hpf' : (E[i]?.getD SR.skip).fr = true := by rw [hfr, ← pureOp_loc hev]; exact hpf
          have hfo := hc.frs i hin hpf'
          refine stL_fresh l σ0 (St.fresh_mono (fun j hj => by simp only [ge, rng, decide_eq_false_iff_not, Bool.and_eq_false_iff] at *; omega) hf0) fun x hx => ?_
          rcases hfo x (hg.lt x hx) (fun e => hni (e ▸ hx)) with h | h
          · exact h
          · exact absurd (hg.closed x hx i h) hni
        · replace hR2 := hR2.told hud
          rw [← he, ← hdst, ← stL_snoc] at hR2
          refine hnext η2 a2 w2 hR2 (hlk.trans (hlk2.mono fun j hj => ?_))
          simp only [ge, rng, decide_eq_false_iff_not, Bool.and_eq_false_iff] at *
          omega
      · have hwant : Region.wanted o (yielded ops a.tmps) = false := by
          rcases hwn with hw | ⟨b, want, hw, hb⟩
          · exact hW.2.1 (by rw [hws]; exact hw)
          · rw [hW.2.2 b want (by rw [hws]; exact hw)]; simpa using hb
        rw [if_neg (by rw [hwant]; simp)]
        have heE : eOf E i = SR.skip.e := by unfold eOf; rw [hskip]
        refine ⟨fun _ _ => trivial, hnext η' _ w ?_ hlk⟩
        rw [stL_snoc, heE, hdst]
        exact hR.put o.dst undefS

/-- a region whose order is open -/
def symDraw (P : Program) (fx : SV → SV) (Γ : Ctab) (ops : Array Oper) (K : SExit → St → Prop) (σ : St) : Prop :=
  symD P fx Γ ops σ.nx (fun E σ' => chk (checkD ops σ.nx E) <| K .normal { σ' with nx := σ.nx + 1048576 * ops.size }) (List.range' 0 ops.size) [] σ

theorem symDraw_sound {fx : SV → SV} (hfx : FixOk fx) {GB : Base → Prop} (hΓ : CtabOk P GB Γ) {r : Option Nat} {B : Base} (hB : GB B) {η : Env} {σ : St} {a : Act} {w : World} {K : SExit → St → Prop} {Q : Exit → Act → World → Prop} (h : symDraw P fx Γ ops K σ) (hR : Rep B η σ a w)
    (hf : σ.fresh (ge σ.nx) = true) (hQ : ∀ e a' w', RPost B η σ.nx K e a' w' → Q e a' w') : wpAnyIn (FR r) 0 P .any ops Q ops.size (Array.replicate ops.size false) a w := by
  unfold symDraw at h
  obtain ⟨F, hF, hrun, hchk⟩ := symD_run (σ0 := σ) ops.size 0 [] σ rfl rfl h
  obtain ⟨hchk, hK⟩ := chk_iff.1 hchk
  simp only [List.nil_append, Nat.zero_add] at hrun hchk hK
  have hc := checked_of hchk
  refine draw_any hfx hΓ hB hc hf (fun j hj => hrun j (Nat.zero_le _) hj) (η := η) (fun η' a' w' hR' hl => ?_) ops.size [] _ η a w .nil (by simp) (fun i hi => by simp [Array.getD_eq_getD_getElem?, hi]) (by simp) hR (η.like_refl _)
  refine hQ _ _ _ ⟨.normal, _, η', hK, rfl, ⟨hR'.len, hR'.tm, hR'.hp, hR'.df⟩, hl, by simp, ?_, rfl⟩
  have := stL_fresh (p := ge (σ.nx + 1048576 * ops.size)) (E := F) (ops := ops) (List.range ops.size) σ (St.fresh_mono (ge_mono (Nat.le_add_right ..)) hf) fun i hi => hc.eff i (List.mem_range.1 hi)
  exact this
end
end Go.Sx
