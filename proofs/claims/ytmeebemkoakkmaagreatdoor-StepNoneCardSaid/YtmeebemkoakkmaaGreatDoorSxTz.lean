import Derived.Test.YtmeebemkoakkmaaGreatDoorSxAE
import Derived.Shelf.Spec.TrailingZeros
import Derived.WalkKit
import Derived.KernelRfl
import Derived.Test.YtmeebemkoakkmaaGreatDoorProg
set_option linter.all false
/-
  math/bits.TrailingZeros64 as a contract, where its table lies as its initialiser lays it.
-/
set_option linter.constructorNameAsVariable false
set_option maxRecDepth 100000
noncomputable section
namespace Go.Sx
open Go Go.Proofs Go.RowKit

theorem callsX_of {P : Program} {f : FuncId} {fn : Func} {c : Code} {args : Array Value} {w : World} {R : Ending → World → Prop} (hfn : P.funcs[f]? = some fn) (hname : (fn.name == "runtime.NumGoroutine") = false) (hc : fn.body = some c) (h : Calls P f args w R) : CallsX P f args w R := by
  have h1 : (callFunc f args).run P w = .ok (.enter f args) w := by
    unfold callFunc
    simp only [Sem.run_bind, run_program, Result.andThen_ok, hfn, hname, Bool.false_eq_true, if_false, hc, Option.isNone_some, Sem.run_pure]
  unfold CallsX
  rw [h1]
  exact h
theorem callsX_of' {P : Program} {f : FuncId} {fn : Func} {args : Array Value} {w : World} {R : Ending → World → Prop} (hfn : P.funcs[f]? = some fn) (hname : (fn.name == "runtime.NumGoroutine") = false) (hc : fn.body.isSome = true) (h : Calls P f args w R) : CallsX P f args w R := by
  obtain ⟨c, hc⟩ := Option.isSome_iff_exists.1 hc
  exact callsX_of hfn hname hc h
theorem tz_core (x k idx : Nat) (w : World) (hx0 : ((x : Int) == 0) = false)
    (key : IntKind.u64.wrap (bits BinOp.and IntKind.u64 (x : Int) (IntKind.u64.wrap (-(x : Int))) * 285870213051353865) / 288230376151711744 = (idx : Int))
    (hi : idx < 64) (hk : k < 64) (hcell : w.cell? ⟨0, idx, none⟩ = some (.int .u8 k)) :
    Calls Tryz.prog 256 #[.int .u64 x] w fun e w' => e = .returned (.int .i64 k) ∧ w' = w := by
  go_enter Tryz.func256, Tryz.ntmps256
  go_wp2_with (simp only [key])
  go_ret
  exact ⟨rfl, rfl⟩
theorem tz_zero (w : World) : Calls Tryz.prog 256 #[.int .u64 0] w fun e w' => e = .returned (.int .i64 64) ∧ w' = w := by
  go_enter Tryz.func256, Tryz.ntmps256
  go_wp2
  go_ret
  exact ⟨rfl, rfl⟩
theorem tz_call (x : Nat) (hx : x < 18446744073709551616) (w : World) (hT : TabAt 0 Lib.deBruijn64tab w) :
    Calls Tryz.prog 256 #[.int .u64 x] w fun e w' => e = .returned (.int .i64 (Lib.ctz 64 x)) ∧ w' = w := by
  by_cases hx0 : x = 0
  · subst hx0; exact tz_zero w
  · obtain ⟨hlow, hk⟩ := Lib.lowest_bit 64 x hx0 hx
    obtain ⟨hi, htab⟩ := Lib.deBruijn64_at _ hk
    have hcell := hT _ hi
    rw [htab] at hcell
    exact tz_core x _ _ w (by simp; omega) (tz64_key x _ hx hx0 hlow) hi hk hcell

theorem ctzN_zero : ∀ k, ctzN k 0 = k
  | 0 => rfl
  | k + 1 => by simp [ctzN, ctzN_zero k]
theorem ctzN_from : ∀ (k x : Nat), ctzN k x = Lib.ctzFrom k x
  | 0, _ => rfl
  | k + 1, x => by simp only [ctzN, Lib.ctzFrom]; split <;> simp [ctzN_from k, Nat.add_comm]
theorem ctzN_ctz (x : Nat) : ctzN 64 x = Lib.ctz 64 x := by
  unfold Lib.ctz
  split
  · rename_i h; subst h; exact ctzN_zero 64
  · exact ctzN_from 64 x

/-- the bases where the table lies -/
def GB (B : Base) : Prop := TabAt 0 Lib.deBruijn64tab B.w0 ∧ 0 < B.w0.heap.size ∧ ¬ B.lent 0
theorem tabAt_of {w w' : World} {g : Nat} {tab : List Nat} (h : TabAt g tab w) (hk : w'.heap[g]? = w.heap[g]?) : TabAt g tab w' := fun j hj => by
  have := h j hj
  unfold World.cell? at this ⊢
  simp only at this ⊢
  rw [hk]; exact this
theorem gOk : GOk GB := fun B η hp w ⟨h1, h2, h3⟩ hR L hL => by
  refine ⟨tabAt_of h1 (hR.kept 0 h2 h3), Nat.lt_of_lt_of_le h2 hR.size, fun hl => ?_⟩
  obtain ⟨i, b, hg, hrw, ha⟩ := hL 0 hl
  rcases hR.mine i b hg hrw with h | h
  · rw [← ha] at h; omega
  · rw [← ha] at h; exact h3 h
theorem tzC_sat {key : Nat} {g : Nat → Option Blk} {vs : List SV} {e : Eff} (h : (tzC.res key g vs).sat e) : ∃ (v : SV) (l : Bool) (m : Nat), vs = [v] ∧ v.asI = some (l, .u64, (m : Int)) ∧ m < 18446744073709551616 ∧ e = ⟨e.obl, mkI l .i64 (ctzN 64 m), []⟩ := by
  unfold tzC at h
  simp only at h
  split at h
  · rename_i v
    split at h
    · rename_i l n hv
      obtain ⟨he, ho⟩ := h
      have hn : 0 ≤ n ∧ n ≤ 18446744073709551615 := ho _ (List.mem_singleton.2 rfl)
      obtain ⟨m, rfl⟩ := Int.eq_ofNat_of_zero_le hn.1
      exact ⟨v, l, m, rfl, hv, by omega, by rw [he]; simp⟩
    · exact h.elim
  · exact h.elim
theorem tz_gen {P : Program} {f : FuncId} {fn : Func} (hfn : P.funcs[f]? = some fn) (hname : (fn.name == "runtime.NumGoroutine") = false) (hb : fn.body.isSome = true)
    (hcall : ∀ (x : Nat), x < 18446744073709551616 → ∀ w : World, TabAt 0 Lib.deBruijn64tab w → Calls P f #[.int .u64 x] w fun e w' => e = .returned (.int .i64 (Lib.ctz 64 x)) ∧ w' = w) : FC.ok P GB f tzC := by
  intro B hB η hp w key vs e p hp0 hs hR hf hm
  obtain ⟨v, l, m, rfl, hv, hm2, he⟩ := tzC_sat hs
  have hc := hcall m hm2 w (tabAt_of hB.1 (hR.kept 0 hB.2.1 hB.2.2))
  have hvs : (dens η [v]).toArray = #[.int .u64 (m : Int)] := by simp [dens, SV.asI_den hv]
  rw [hvs]
  refine callsX_of' hfn hname hb (Calls.mono hc fun r w' h => ?_)
  obtain ⟨rfl, rfl⟩ := h
  have hsets : e.sets = [] := by rw [he]
  have hval : e.val = mkI l .i64 (ctzN 64 m) := by rw [he]
  refine ⟨η, ?_, ?_, η.like_refl _⟩
  · rw [hval, mkI_den, ctzN_ctz]
  · rw [hsets]; exact hR
theorem tz_name : (Tryz.f256.name == "runtime.NumGoroutine") = false := by kernel_rfl
theorem tz_body : Tryz.f256.body.isSome = true := by kernel_rfl
theorem tz_ok : FC.ok Tryz.prog GB 256 tzC := tz_gen Tryz.func256 tz_name tz_body tz_call
theorem hm : Tryz.prog.follows .mixedOrders = true := by kernel_rfl
end Go.Sx
