/-
  DERIVED. GIVEN WITH THE SEED: THE CARDS: each row of YtfkclcoipadhmaaGreatDoorRows.lean that lists a variable, with what it lists TIED to the program's text (the seventh form; the later family's looks); each row that meets fmt, with fmt's text TOLD by the authors' own Lean function (tested against real Go, not proved from fmt's source: count such statements apart). THE CARD IS WHAT COUNTS. Prove the row's statement (the work); the ties are given (YtfkclcoipadhmaaGreatDoorTie.lean); close each card by the builder's one call (the guide's Derived/Test/ToyasCard.lean, 'card_holds'). Laid BY PROGRAM, IN A SANDBOX (cutbox-door.mjs). By AI agents, Wed Nov 11 2026. No macro, syntax, notation, axiom, sorry.
-/
import Derived.Test.YtfkclcoipadhmaaGreatDoorRows
import GoSem.ClaimSeven
namespace Go.Proofs.YtfkclcoipadhmaaGreatDoor
namespace Rows

/-- THE TIED CARD OF 'tranklaw02.CurveSum'. -/
def curveSumCard : Claim7 := { stood := { row := curveSumRow, standIns := [], harness := (true, "69d713188a5bd7dd4854256d71ee522725d2916d2e5f6b8c30a1e1fa753c73fd"), looks := false }, kinds := [], alts := [], laidByText := true, laidKinds := [.data], laidTests := true, laidLooks := .later }
def CurveSumCardSaid : Prop := Claim7.holds Tryz.pinned (.plain (OpenSpec.ofChange curveSumSpec)) curveSumCard

/-- THE TIED CARD OF 'tranklaw02.CurveCompose'. -/
def curveComposeCard : Claim7 := { stood := { row := curveComposeRow, standIns := [], harness := (true, "69d713188a5bd7dd4854256d71ee522725d2916d2e5f6b8c30a1e1fa753c73fd"), looks := false }, kinds := [], alts := [], laidByText := true, laidKinds := [.data], laidTests := true, laidLooks := .later }
def CurveComposeCardSaid : Prop := Claim7.holds Tryz.pinned (.plain (OpenSpec.ofChange curveComposeSpec)) curveComposeCard

/-- THE TIED CARD OF 'tranklaw02.CurveUnder'. -/
def curveUnderCard : Claim7 := { stood := { row := curveUnderRow, standIns := [], harness := (true, "69d713188a5bd7dd4854256d71ee522725d2916d2e5f6b8c30a1e1fa753c73fd"), looks := false }, kinds := [], alts := [], laidByText := true, laidKinds := [.data], laidTests := true, laidLooks := .later }
def CurveUnderCardSaid : Prop := Claim7.holds Tryz.pinned (.plain (OpenSpec.ofChange curveUnderSpec)) curveUnderCard

/-- THE TIED CARD OF 'tranklaw02.CurveCut'. -/
def curveCutCard : Claim7 := { stood := { row := curveCutRow, standIns := [], harness := (true, "69d713188a5bd7dd4854256d71ee522725d2916d2e5f6b8c30a1e1fa753c73fd"), looks := false }, kinds := [], alts := [], laidByText := true, laidKinds := [.data], laidTests := true, laidLooks := .later }
def CurveCutCardSaid : Prop := Claim7.holds Tryz.pinned (.plain (OpenSpec.ofChange curveCutSpec)) curveCutCard

/-- THE TIED CARD OF 'tranklaw02.CurveAt'. -/
def curveAtCard : Claim7 := { stood := { row := curveAtRow, standIns := [], harness := (true, "69d713188a5bd7dd4854256d71ee522725d2916d2e5f6b8c30a1e1fa753c73fd"), looks := false }, kinds := [], alts := [], laidByText := true, laidKinds := [.data], laidTests := true, laidLooks := .later }
def CurveAtCardSaid : Prop := Claim7.holds Tryz.pinned (.plain (OpenSpec.ofChange curveAtSpec)) curveAtCard

/-- THE TIED CARD OF 'tranklaw02.CurveWork'. -/
def curveWorkCard : Claim7 := { stood := { row := curveWorkRow, standIns := [], harness := (true, "69d713188a5bd7dd4854256d71ee522725d2916d2e5f6b8c30a1e1fa753c73fd"), looks := false }, kinds := [], alts := [], laidByText := true, laidKinds := [.data], laidTests := true, laidLooks := .later }
def CurveWorkCardSaid : Prop := Claim7.holds Tryz.pinned (.plain (OpenSpec.ofChange curveWorkSpec)) curveWorkCard

/-- THE TIED CARD OF 'tranklaw02.CurveEnvelopes'. -/
def curveEnvelopesCard : Claim7 := { stood := { row := curveEnvelopesRow, standIns := [], harness := (true, "69d713188a5bd7dd4854256d71ee522725d2916d2e5f6b8c30a1e1fa753c73fd"), looks := false }, kinds := [], alts := [], laidByText := true, laidKinds := [.data], laidTests := true, laidLooks := .later }
def CurveEnvelopesCardSaid : Prop := Claim7.holds Tryz.pinned (.plain (OpenSpec.ofChange curveEnvelopesSpec)) curveEnvelopesCard

/-- THE SECOND FORM's CARD OF 'tranklaw02.CurveSum'. -/
def curveSumUptoCard : Claim7 := { stood := { row := curveSumUptoRow, standIns := [], harness := (true, "69d713188a5bd7dd4854256d71ee522725d2916d2e5f6b8c30a1e1fa753c73fd"), looks := false }, kinds := [], alts := [], laidByText := true, laidKinds := [.data], laidTests := true, laidLooks := .later }
def CurveSumUptoCardSaid : Prop := Claim7.holds Tryz.pinned (.plain (OpenSpec.upto curveSumSpec)) curveSumUptoCard

/-- THE SECOND FORM's CARD OF 'tranklaw02.CurveCompose'. -/
def curveComposeUptoCard : Claim7 := { stood := { row := curveComposeUptoRow, standIns := [], harness := (true, "69d713188a5bd7dd4854256d71ee522725d2916d2e5f6b8c30a1e1fa753c73fd"), looks := false }, kinds := [], alts := [], laidByText := true, laidKinds := [.data], laidTests := true, laidLooks := .later }
def CurveComposeUptoCardSaid : Prop := Claim7.holds Tryz.pinned (.plain (OpenSpec.upto curveComposeSpec)) curveComposeUptoCard

/-- THE SECOND FORM's CARD OF 'tranklaw02.CurveUnder'. -/
def curveUnderUptoCard : Claim7 := { stood := { row := curveUnderUptoRow, standIns := [], harness := (true, "69d713188a5bd7dd4854256d71ee522725d2916d2e5f6b8c30a1e1fa753c73fd"), looks := false }, kinds := [], alts := [], laidByText := true, laidKinds := [.data], laidTests := true, laidLooks := .later }
def CurveUnderUptoCardSaid : Prop := Claim7.holds Tryz.pinned (.plain (OpenSpec.upto curveUnderSpec)) curveUnderUptoCard

/-- THE SECOND FORM's CARD OF 'tranklaw02.CurveCut'. -/
def curveCutUptoCard : Claim7 := { stood := { row := curveCutUptoRow, standIns := [], harness := (true, "69d713188a5bd7dd4854256d71ee522725d2916d2e5f6b8c30a1e1fa753c73fd"), looks := false }, kinds := [], alts := [], laidByText := true, laidKinds := [.data], laidTests := true, laidLooks := .later }
def CurveCutUptoCardSaid : Prop := Claim7.holds Tryz.pinned (.plain (OpenSpec.upto curveCutSpec)) curveCutUptoCard

/-- THE SECOND FORM's CARD OF 'tranklaw02.CurveAt'. -/
def curveAtUptoCard : Claim7 := { stood := { row := curveAtUptoRow, standIns := [], harness := (true, "69d713188a5bd7dd4854256d71ee522725d2916d2e5f6b8c30a1e1fa753c73fd"), looks := false }, kinds := [], alts := [], laidByText := true, laidKinds := [.data], laidTests := true, laidLooks := .later }
def CurveAtUptoCardSaid : Prop := Claim7.holds Tryz.pinned (.plain (OpenSpec.upto curveAtSpec)) curveAtUptoCard

/-- THE SECOND FORM's CARD OF 'tranklaw02.CurveWork'. -/
def curveWorkUptoCard : Claim7 := { stood := { row := curveWorkUptoRow, standIns := [], harness := (true, "69d713188a5bd7dd4854256d71ee522725d2916d2e5f6b8c30a1e1fa753c73fd"), looks := false }, kinds := [], alts := [], laidByText := true, laidKinds := [.data], laidTests := true, laidLooks := .later }
def CurveWorkUptoCardSaid : Prop := Claim7.holds Tryz.pinned (.plain (OpenSpec.upto curveWorkSpec)) curveWorkUptoCard

/-- THE SECOND FORM's CARD OF 'tranklaw02.CurveEnvelopes'. -/
def curveEnvelopesUptoCard : Claim7 := { stood := { row := curveEnvelopesUptoRow, standIns := [], harness := (true, "69d713188a5bd7dd4854256d71ee522725d2916d2e5f6b8c30a1e1fa753c73fd"), looks := false }, kinds := [], alts := [], laidByText := true, laidKinds := [.data], laidTests := true, laidLooks := .later }
def CurveEnvelopesUptoCardSaid : Prop := Claim7.holds Tryz.pinned (.plain (OpenSpec.upto curveEnvelopesSpec)) curveEnvelopesUptoCard
end Rows
end Go.Proofs.YtfkclcoipadhmaaGreatDoor
