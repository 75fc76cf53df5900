/-
  DERIVED. GIVEN WITH THE SEED: THE CARDS: each row of YtmeebemkoakkmaaGreatDoorRows.lean that lists a variable, with what it lists TIED to the program's text (the seventh form; the later family's looks); each row that meets fmt, with fmt's text TOLD by the authors' own Lean function (tested against real Go, not proved from fmt's source: count such statements apart). THE CARD IS WHAT COUNTS. Prove the row's statement (the work); the ties are given (YtmeebemkoakkmaaGreatDoorTie.lean); close each card by the builder's one call (the guide's Derived/Test/ToyasCard.lean, 'card_holds'). Laid BY PROGRAM, IN A SANDBOX (cutbox-door.mjs). By AI agents, Wed Nov 11 2026. No macro, syntax, notation, axiom, sorry.
-/
import Derived.Test.YtmeebemkoakkmaaGreatDoorRows
import GoSem.ClaimSeven
namespace Go.Proofs.YtmeebemkoakkmaaGreatDoor
namespace Rows

/-- THE TIED CARD OF 'abacuslaw29.StepBoxed'. -/
def stepBoxedCard : Claim7 := { stood := { row := stepBoxedRow, standIns := [], harness := (true, "dd05a4c278023ef34a3e6a877f7abc15b626bf3ec38a789488547695609cb616"), looks := true }, kinds := [], alts := [], laidByText := true, laidKinds := [.data], laidTests := true, laidLooks := .later }
def StepBoxedCardSaid : Prop := Claim7.holds Tryz.pinned (.plain (OpenSpec.ofChange stepBoxedSpec)) stepBoxedCard

/-- THE TIED CARD OF 'abacuslaw29.StepTraps'. -/
def stepTrapsCard : Claim7 := { stood := { row := stepTrapsRow, standIns := [], harness := (true, "dd05a4c278023ef34a3e6a877f7abc15b626bf3ec38a789488547695609cb616"), looks := true }, kinds := [], alts := [], laidByText := true, laidKinds := [.data], laidTests := true, laidLooks := .later }
def StepTrapsCardSaid : Prop := Claim7.holds Tryz.pinned (.plain (OpenSpec.ofChange stepTrapsSpec)) stepTrapsCard

/-- THE TIED CARD OF 'abacuslaw29.StepPrecise'. -/
def stepPreciseCard : Claim7 := { stood := { row := stepPreciseRow, standIns := [], harness := (true, "dd05a4c278023ef34a3e6a877f7abc15b626bf3ec38a789488547695609cb616"), looks := true }, kinds := [], alts := [], laidByText := true, laidKinds := [.data], laidTests := true, laidLooks := .later }
def StepPreciseCardSaid : Prop := Claim7.holds Tryz.pinned (.plain (OpenSpec.ofChange stepPreciseSpec)) stepPreciseCard

/-- THE TIED CARD OF 'abacuslaw29.StepStates'. -/
def stepStatesCard : Claim7 := { stood := { row := stepStatesRow, standIns := [], harness := (true, "dd05a4c278023ef34a3e6a877f7abc15b626bf3ec38a789488547695609cb616"), looks := true }, kinds := [], alts := [], laidByText := true, laidKinds := [.data], laidTests := true, laidLooks := .later }
def StepStatesCardSaid : Prop := Claim7.holds Tryz.pinned (.plain (OpenSpec.ofChange stepStatesSpec)) stepStatesCard

/-- THE TIED CARD OF 'abacuslaw29.StepNone'. -/
def stepNoneCard : Claim7 := { stood := { row := stepNoneRow, standIns := [], harness := (true, "dd05a4c278023ef34a3e6a877f7abc15b626bf3ec38a789488547695609cb616"), looks := true }, kinds := [], alts := [], laidByText := true, laidKinds := [.data], laidTests := true, laidLooks := .later }
def StepNoneCardSaid : Prop := Claim7.holds Tryz.pinned (.plain (OpenSpec.ofChange stepNoneSpec)) stepNoneCard

/-- THE SECOND FORM's CARD OF 'abacuslaw29.StepBoxed'. -/
def stepBoxedUptoCard : Claim7 := { stood := { row := stepBoxedUptoRow, standIns := [], harness := (true, "dd05a4c278023ef34a3e6a877f7abc15b626bf3ec38a789488547695609cb616"), looks := true }, kinds := [], alts := [], laidByText := true, laidKinds := [.data], laidTests := true, laidLooks := .later }
def StepBoxedUptoCardSaid : Prop := Claim7.holds Tryz.pinned (.plain (OpenSpec.upto stepBoxedSpec)) stepBoxedUptoCard

/-- THE SECOND FORM's CARD OF 'abacuslaw29.StepTraps'. -/
def stepTrapsUptoCard : Claim7 := { stood := { row := stepTrapsUptoRow, standIns := [], harness := (true, "dd05a4c278023ef34a3e6a877f7abc15b626bf3ec38a789488547695609cb616"), looks := true }, kinds := [], alts := [], laidByText := true, laidKinds := [.data], laidTests := true, laidLooks := .later }
def StepTrapsUptoCardSaid : Prop := Claim7.holds Tryz.pinned (.plain (OpenSpec.upto stepTrapsSpec)) stepTrapsUptoCard

/-- THE SECOND FORM's CARD OF 'abacuslaw29.StepPrecise'. -/
def stepPreciseUptoCard : Claim7 := { stood := { row := stepPreciseUptoRow, standIns := [], harness := (true, "dd05a4c278023ef34a3e6a877f7abc15b626bf3ec38a789488547695609cb616"), looks := true }, kinds := [], alts := [], laidByText := true, laidKinds := [.data], laidTests := true, laidLooks := .later }
def StepPreciseUptoCardSaid : Prop := Claim7.holds Tryz.pinned (.plain (OpenSpec.upto stepPreciseSpec)) stepPreciseUptoCard

/-- THE SECOND FORM's CARD OF 'abacuslaw29.StepStates'. -/
def stepStatesUptoCard : Claim7 := { stood := { row := stepStatesUptoRow, standIns := [], harness := (true, "dd05a4c278023ef34a3e6a877f7abc15b626bf3ec38a789488547695609cb616"), looks := true }, kinds := [], alts := [], laidByText := true, laidKinds := [.data], laidTests := true, laidLooks := .later }
def StepStatesUptoCardSaid : Prop := Claim7.holds Tryz.pinned (.plain (OpenSpec.upto stepStatesSpec)) stepStatesUptoCard

/-- THE SECOND FORM's CARD OF 'abacuslaw29.StepNone'. -/
def stepNoneUptoCard : Claim7 := { stood := { row := stepNoneUptoRow, standIns := [], harness := (true, "dd05a4c278023ef34a3e6a877f7abc15b626bf3ec38a789488547695609cb616"), looks := true }, kinds := [], alts := [], laidByText := true, laidKinds := [.data], laidTests := true, laidLooks := .later }
def StepNoneUptoCardSaid : Prop := Claim7.holds Tryz.pinned (.plain (OpenSpec.upto stepNoneSpec)) stepNoneUptoCard
end Rows
end Go.Proofs.YtmeebemkoakkmaaGreatDoor
