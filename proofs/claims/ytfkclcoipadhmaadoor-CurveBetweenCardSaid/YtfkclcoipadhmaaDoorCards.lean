/-
  DERIVED. GIVEN WITH THE SEED: THE CARDS: each row of YtfkclcoipadhmaaDoorRows.lean that lists a variable, with what it lists TIED to the program's text (the seventh form; the later family's looks); each row that meets fmt, with fmt's text TOLD by the authors' own Lean function (tested against real Go, not proved from fmt's source: count such statements apart). THE CARD IS WHAT COUNTS. Prove the row's statement (the work); the ties are given (YtfkclcoipadhmaaDoorTie.lean); close each card by the builder's one call (the guide's Derived/Test/ToyasCard.lean, 'card_holds'). Laid BY PROGRAM, IN A SANDBOX (cutbox-door.mjs). By AI agents, Wed Nov 11 2026. No macro, syntax, notation, axiom, sorry.
-/
import Derived.Test.YtfkclcoipadhmaaDoorRows
import GoSem.ClaimSeven
namespace Go.Proofs.YtfkclcoipadhmaaDoor
namespace Rows

/-- THE TIED CARD OF 'tranklaw02.CurveValid'. -/
def curveValidCard : Claim7 := { stood := { row := curveValidRow, standIns := [], harness := (true, "b8357dc9cb8039b15e366f52351419977dd6830341227581b44478b44bddb5a2"), looks := false }, kinds := [], alts := [], laidByText := true, laidKinds := [.data], laidTests := true, laidLooks := .later }
def CurveValidCardSaid : Prop := Claim7.holds Tryd.pinned (.plain (OpenSpec.ofChange curveValidSpec)) curveValidCard

/-- THE TIED CARD OF 'tranklaw02.CurveInverse'. -/
def curveInverseCard : Claim7 := { stood := { row := curveInverseRow, standIns := [], harness := (true, "b8357dc9cb8039b15e366f52351419977dd6830341227581b44478b44bddb5a2"), looks := false }, kinds := [], alts := [], laidByText := true, laidKinds := [.data], laidTests := true, laidLooks := .later }
def CurveInverseCardSaid : Prop := Claim7.holds Tryd.pinned (.plain (OpenSpec.ofChange curveInverseSpec)) curveInverseCard

/-- THE TIED CARD OF 'tranklaw02.CurveScale'. -/
def curveScaleCard : Claim7 := { stood := { row := curveScaleRow, standIns := [], harness := (true, "b8357dc9cb8039b15e366f52351419977dd6830341227581b44478b44bddb5a2"), looks := false }, kinds := [], alts := [], laidByText := true, laidKinds := [.data], laidTests := true, laidLooks := .later }
def CurveScaleCardSaid : Prop := Claim7.holds Tryd.pinned (.plain (OpenSpec.ofChange curveScaleSpec)) curveScaleCard

/-- THE TIED CARD OF 'tranklaw02.CurveMorgan'. -/
def curveMorganCard : Claim7 := { stood := { row := curveMorganRow, standIns := [], harness := (true, "b8357dc9cb8039b15e366f52351419977dd6830341227581b44478b44bddb5a2"), looks := false }, kinds := [], alts := [], laidByText := true, laidKinds := [.data], laidTests := true, laidLooks := .later }
def CurveMorganCardSaid : Prop := Claim7.holds Tryd.pinned (.plain (OpenSpec.ofChange curveMorganSpec)) curveMorganCard

/-- THE TIED CARD OF 'tranklaw02.CurveJoin'. -/
def curveJoinCard : Claim7 := { stood := { row := curveJoinRow, standIns := [], harness := (true, "b8357dc9cb8039b15e366f52351419977dd6830341227581b44478b44bddb5a2"), looks := false }, kinds := [], alts := [], laidByText := true, laidKinds := [.data], laidTests := true, laidLooks := .later }
def CurveJoinCardSaid : Prop := Claim7.holds Tryd.pinned (.plain (OpenSpec.ofChange curveJoinSpec)) curveJoinCard

/-- THE TIED CARD OF 'tranklaw02.CurveMeans'. -/
def curveMeansCard : Claim7 := { stood := { row := curveMeansRow, standIns := [], harness := (true, "b8357dc9cb8039b15e366f52351419977dd6830341227581b44478b44bddb5a2"), looks := false }, kinds := [], alts := [], laidByText := true, laidKinds := [.data], laidTests := true, laidLooks := .later }
def CurveMeansCardSaid : Prop := Claim7.holds Tryd.pinned (.plain (OpenSpec.ofChange curveMeansSpec)) curveMeansCard

/-- THE TIED CARD OF 'tranklaw02.CurveRound'. -/
def curveRoundCard : Claim7 := { stood := { row := curveRoundRow, standIns := [], harness := (true, "b8357dc9cb8039b15e366f52351419977dd6830341227581b44478b44bddb5a2"), looks := false }, kinds := [], alts := [], laidByText := true, laidKinds := [.data], laidTests := true, laidLooks := .later }
def CurveRoundCardSaid : Prop := Claim7.holds Tryd.pinned (.plain (OpenSpec.ofChange curveRoundSpec)) curveRoundCard

/-- THE TIED CARD OF 'tranklaw02.CurveHulls'. -/
def curveHullsCard : Claim7 := { stood := { row := curveHullsRow, standIns := [], harness := (true, "b8357dc9cb8039b15e366f52351419977dd6830341227581b44478b44bddb5a2"), looks := false }, kinds := [], alts := [], laidByText := true, laidKinds := [.data], laidTests := true, laidLooks := .later }
def CurveHullsCardSaid : Prop := Claim7.holds Tryd.pinned (.plain (OpenSpec.ofChange curveHullsSpec)) curveHullsCard

/-- THE TIED CARD OF 'tranklaw02.CurveIsotone'. -/
def curveIsotoneCard : Claim7 := { stood := { row := curveIsotoneRow, standIns := [], harness := (true, "b8357dc9cb8039b15e366f52351419977dd6830341227581b44478b44bddb5a2"), looks := false }, kinds := [], alts := [], laidByText := true, laidKinds := [.data], laidTests := true, laidLooks := .later }
def CurveIsotoneCardSaid : Prop := Claim7.holds Tryd.pinned (.plain (OpenSpec.ofChange curveIsotoneSpec)) curveIsotoneCard

/-- THE TIED CARD OF 'tranklaw02.CurveHulled'. -/
def curveHulledCard : Claim7 := { stood := { row := curveHulledRow, standIns := [], harness := (true, "b8357dc9cb8039b15e366f52351419977dd6830341227581b44478b44bddb5a2"), looks := false }, kinds := [], alts := [], laidByText := true, laidKinds := [.data], laidTests := true, laidLooks := .later }
def CurveHulledCardSaid : Prop := Claim7.holds Tryd.pinned (.plain (OpenSpec.ofChange curveHulledSpec)) curveHulledCard

/-- THE TIED CARD OF 'tranklaw02.CurveSolves'. -/
def curveSolvesCard : Claim7 := { stood := { row := curveSolvesRow, standIns := [], harness := (true, "b8357dc9cb8039b15e366f52351419977dd6830341227581b44478b44bddb5a2"), looks := false }, kinds := [], alts := [], laidByText := true, laidKinds := [.data], laidTests := true, laidLooks := .later }
def CurveSolvesCardSaid : Prop := Claim7.holds Tryd.pinned (.plain (OpenSpec.ofChange curveSolvesSpec)) curveSolvesCard

/-- THE TIED CARD OF 'tranklaw02.CurveBetween'. -/
def curveBetweenCard : Claim7 := { stood := { row := curveBetweenRow, standIns := [], harness := (true, "b8357dc9cb8039b15e366f52351419977dd6830341227581b44478b44bddb5a2"), looks := false }, kinds := [], alts := [], laidByText := true, laidKinds := [.data], laidTests := true, laidLooks := .later }
def CurveBetweenCardSaid : Prop := Claim7.holds Tryd.pinned (.plain (OpenSpec.ofChange curveBetweenSpec)) curveBetweenCard

/-- THE TIED CARD OF 'tranktop.TopWorkAdds'. -/
def topWorkAddsCard : Claim7 := { stood := { row := topWorkAddsRow, standIns := [], harness := (true, "b8357dc9cb8039b15e366f52351419977dd6830341227581b44478b44bddb5a2"), looks := false }, kinds := [], alts := [], laidByText := true, laidKinds := [.data], laidTests := true, laidLooks := .later }
def TopWorkAddsCardSaid : Prop := Claim7.holds Tryd.pinned (.plain (OpenSpec.ofChange topWorkAddsSpec)) topWorkAddsCard

/-- THE SECOND FORM's CARD OF 'tranklaw02.CurveValid'. -/
def curveValidUptoCard : Claim7 := { stood := { row := curveValidUptoRow, standIns := [], harness := (true, "b8357dc9cb8039b15e366f52351419977dd6830341227581b44478b44bddb5a2"), looks := false }, kinds := [], alts := [], laidByText := true, laidKinds := [.data], laidTests := true, laidLooks := .later }
def CurveValidUptoCardSaid : Prop := Claim7.holds Tryd.pinned (.plain (OpenSpec.upto curveValidSpec)) curveValidUptoCard

/-- THE SECOND FORM's CARD OF 'tranklaw02.CurveInverse'. -/
def curveInverseUptoCard : Claim7 := { stood := { row := curveInverseUptoRow, standIns := [], harness := (true, "b8357dc9cb8039b15e366f52351419977dd6830341227581b44478b44bddb5a2"), looks := false }, kinds := [], alts := [], laidByText := true, laidKinds := [.data], laidTests := true, laidLooks := .later }
def CurveInverseUptoCardSaid : Prop := Claim7.holds Tryd.pinned (.plain (OpenSpec.upto curveInverseSpec)) curveInverseUptoCard

/-- THE SECOND FORM's CARD OF 'tranklaw02.CurveScale'. -/
def curveScaleUptoCard : Claim7 := { stood := { row := curveScaleUptoRow, standIns := [], harness := (true, "b8357dc9cb8039b15e366f52351419977dd6830341227581b44478b44bddb5a2"), looks := false }, kinds := [], alts := [], laidByText := true, laidKinds := [.data], laidTests := true, laidLooks := .later }
def CurveScaleUptoCardSaid : Prop := Claim7.holds Tryd.pinned (.plain (OpenSpec.upto curveScaleSpec)) curveScaleUptoCard

/-- THE SECOND FORM's CARD OF 'tranklaw02.CurveMorgan'. -/
def curveMorganUptoCard : Claim7 := { stood := { row := curveMorganUptoRow, standIns := [], harness := (true, "b8357dc9cb8039b15e366f52351419977dd6830341227581b44478b44bddb5a2"), looks := false }, kinds := [], alts := [], laidByText := true, laidKinds := [.data], laidTests := true, laidLooks := .later }
def CurveMorganUptoCardSaid : Prop := Claim7.holds Tryd.pinned (.plain (OpenSpec.upto curveMorganSpec)) curveMorganUptoCard

/-- THE SECOND FORM's CARD OF 'tranklaw02.CurveJoin'. -/
def curveJoinUptoCard : Claim7 := { stood := { row := curveJoinUptoRow, standIns := [], harness := (true, "b8357dc9cb8039b15e366f52351419977dd6830341227581b44478b44bddb5a2"), looks := false }, kinds := [], alts := [], laidByText := true, laidKinds := [.data], laidTests := true, laidLooks := .later }
def CurveJoinUptoCardSaid : Prop := Claim7.holds Tryd.pinned (.plain (OpenSpec.upto curveJoinSpec)) curveJoinUptoCard

/-- THE SECOND FORM's CARD OF 'tranklaw02.CurveMeans'. -/
def curveMeansUptoCard : Claim7 := { stood := { row := curveMeansUptoRow, standIns := [], harness := (true, "b8357dc9cb8039b15e366f52351419977dd6830341227581b44478b44bddb5a2"), looks := false }, kinds := [], alts := [], laidByText := true, laidKinds := [.data], laidTests := true, laidLooks := .later }
def CurveMeansUptoCardSaid : Prop := Claim7.holds Tryd.pinned (.plain (OpenSpec.upto curveMeansSpec)) curveMeansUptoCard

/-- THE SECOND FORM's CARD OF 'tranklaw02.CurveRound'. -/
def curveRoundUptoCard : Claim7 := { stood := { row := curveRoundUptoRow, standIns := [], harness := (true, "b8357dc9cb8039b15e366f52351419977dd6830341227581b44478b44bddb5a2"), looks := false }, kinds := [], alts := [], laidByText := true, laidKinds := [.data], laidTests := true, laidLooks := .later }
def CurveRoundUptoCardSaid : Prop := Claim7.holds Tryd.pinned (.plain (OpenSpec.upto curveRoundSpec)) curveRoundUptoCard

/-- THE SECOND FORM's CARD OF 'tranklaw02.CurveHulls'. -/
def curveHullsUptoCard : Claim7 := { stood := { row := curveHullsUptoRow, standIns := [], harness := (true, "b8357dc9cb8039b15e366f52351419977dd6830341227581b44478b44bddb5a2"), looks := false }, kinds := [], alts := [], laidByText := true, laidKinds := [.data], laidTests := true, laidLooks := .later }
def CurveHullsUptoCardSaid : Prop := Claim7.holds Tryd.pinned (.plain (OpenSpec.upto curveHullsSpec)) curveHullsUptoCard

/-- THE SECOND FORM's CARD OF 'tranklaw02.CurveIsotone'. -/
def curveIsotoneUptoCard : Claim7 := { stood := { row := curveIsotoneUptoRow, standIns := [], harness := (true, "b8357dc9cb8039b15e366f52351419977dd6830341227581b44478b44bddb5a2"), looks := false }, kinds := [], alts := [], laidByText := true, laidKinds := [.data], laidTests := true, laidLooks := .later }
def CurveIsotoneUptoCardSaid : Prop := Claim7.holds Tryd.pinned (.plain (OpenSpec.upto curveIsotoneSpec)) curveIsotoneUptoCard

/-- THE SECOND FORM's CARD OF 'tranklaw02.CurveHulled'. -/
def curveHulledUptoCard : Claim7 := { stood := { row := curveHulledUptoRow, standIns := [], harness := (true, "b8357dc9cb8039b15e366f52351419977dd6830341227581b44478b44bddb5a2"), looks := false }, kinds := [], alts := [], laidByText := true, laidKinds := [.data], laidTests := true, laidLooks := .later }
def CurveHulledUptoCardSaid : Prop := Claim7.holds Tryd.pinned (.plain (OpenSpec.upto curveHulledSpec)) curveHulledUptoCard

/-- THE SECOND FORM's CARD OF 'tranklaw02.CurveSolves'. -/
def curveSolvesUptoCard : Claim7 := { stood := { row := curveSolvesUptoRow, standIns := [], harness := (true, "b8357dc9cb8039b15e366f52351419977dd6830341227581b44478b44bddb5a2"), looks := false }, kinds := [], alts := [], laidByText := true, laidKinds := [.data], laidTests := true, laidLooks := .later }
def CurveSolvesUptoCardSaid : Prop := Claim7.holds Tryd.pinned (.plain (OpenSpec.upto curveSolvesSpec)) curveSolvesUptoCard

/-- THE SECOND FORM's CARD OF 'tranklaw02.CurveBetween'. -/
def curveBetweenUptoCard : Claim7 := { stood := { row := curveBetweenUptoRow, standIns := [], harness := (true, "b8357dc9cb8039b15e366f52351419977dd6830341227581b44478b44bddb5a2"), looks := false }, kinds := [], alts := [], laidByText := true, laidKinds := [.data], laidTests := true, laidLooks := .later }
def CurveBetweenUptoCardSaid : Prop := Claim7.holds Tryd.pinned (.plain (OpenSpec.upto curveBetweenSpec)) curveBetweenUptoCard

/-- THE SECOND FORM's CARD OF 'tranktop.TopWorkAdds'. -/
def topWorkAddsUptoCard : Claim7 := { stood := { row := topWorkAddsUptoRow, standIns := [], harness := (true, "b8357dc9cb8039b15e366f52351419977dd6830341227581b44478b44bddb5a2"), looks := false }, kinds := [], alts := [], laidByText := true, laidKinds := [.data], laidTests := true, laidLooks := .later }
def TopWorkAddsUptoCardSaid : Prop := Claim7.holds Tryd.pinned (.plain (OpenSpec.upto topWorkAddsSpec)) topWorkAddsUptoCard
end Rows
end Go.Proofs.YtfkclcoipadhmaaDoor
