/-
  NARROWER THAN 'FOR EVERY INPUT', by the rows' own cells (each row's printed sentence says how): CurveValid: laid · CurveInverse: laid · CurveScale: laid · CurveMorgan: laid · CurveJoin: laid · CurveMeans: laid · CurveRound: laid · CurveHulls: laid · CurveIsotone: laid · CurveHulled: laid · CurveSolves: laid · CurveBetween: laid · TopWorkAdds: laid.
  DERIVED. THE GIVEN ROWS OF THIS SEAT. 13 by the template 'for every input the law returns true; each argument reads behind the call as it read before'; 0 by the template 'total and deterministic' (their statements: YtfkclcoipadhmaaDoorTotals.lean).
  GIVEN WITH THE SEED: the statements are not yours to turn. If you find one false, say at which input.
  Laid BY PROGRAM, IN A SANDBOX (cutbox-rows.mjs): the forced cells as the released guide's own fill.sh prints them over the translation 950c346c401f18e9… (all of the seat's roots in one cut). By AI agents, Wed Nov 11 2026. No macro, syntax, notation, axiom, sorry.
-/
import Derived.Test.YtfkclcoipadhmaaDoorChecked
import GoSem.Claim
import GoSem.ClaimJoined
import GoSem.ClaimMapViews
import Derived.JoinedTies
import Derived.KernelRfl
namespace Go.Proofs.YtfkclcoipadhmaaDoor
/- THE CELL 'sum', in the pinned program and in every row, IS THE sha256 OF THE DUMP (.gsa) THAT YtfkclcoipadhmaaDoorProg.lean LOADS. Nothing in Lean hashes anything: it is a label: what it is worth is what the hold of that sum in a sandbox is worth. -/
noncomputable def Tryd.pinned : Pinned := { name := "ytfkclcoipadhmaadoor", sum := "950c346c401f18e9f03f2e45aad63b9f259c8e7a1a09142a51d9a65c1d0f42b5", checked := Tryd.checked }
namespace Rows
def none {H : Type} : Left H := { results := [], args := [] }

/- WHAT THE LISTED PACKAGE-LEVEL VARIABLES READ AS WHEN THE CALL BEGINS. Each datum BY PROGRAM (the guide's laid-datum.mjs) off the statement by which the dump's own 'gosem.cut.vars' lays the variable. In a bare row this is a premise. The card (YtfkclcoipadhmaaDoorCards.lean) ties it to the program's text. -/
def laid_trank_curve_zero {H : Type} : DataW H := .agg [.lit (.int .i64 0), .lit (.int .i64 1)]

/-- 'tranklaw02.CurveValid': WHATEVER THE INPUT: true; the input reads as it did. -/
def curveValidSpec : ChangeSpec := { name := "curveValid", fn := fun _ => fun
  | [d] => { results := [.lit (.bool true)], args := [d] }
  | _ => none }
def curveValidRow : OpenClaim := { program := "ytfkclcoipadhmaadoor", sum := "950c346c401f18e9f03f2e45aad63b9f259c8e7a1a09142a51d9a65c1d0f42b5", func := "trank/tranklaw02.CurveValid", spec := "curveValid", unfollowed := true, recurses := true, named := ["trank/curve.zero"], apart := false, laid := [("trank/curve.zero", laid_trank_curve_zero)] }
def CurveValidSaid : Prop := curveValidRow.holds Tryd.pinned (OpenSpec.ofChange curveValidSpec)

/-- ITS FALSE NEIGHBOUR: 'it returns false'. Refute it at one input. -/
def curveValidWrong : ChangeSpec := { name := "curveValid", fn := fun _ => fun
  | [d] => { results := [.lit (.bool false)], args := [d] }
  | _ => none }
def CurveValidWrongFalsely : Prop := curveValidRow.holds Tryd.pinned (OpenSpec.ofChange curveValidWrong)

/-- 'tranklaw02.CurveInverse': WHATEVER THE INPUT: true; the input reads as it did. -/
def curveInverseSpec : ChangeSpec := { name := "curveInverse", fn := fun _ => fun
  | [d] => { results := [.lit (.bool true)], args := [d] }
  | _ => none }
def curveInverseRow : OpenClaim := { program := "ytfkclcoipadhmaadoor", sum := "950c346c401f18e9f03f2e45aad63b9f259c8e7a1a09142a51d9a65c1d0f42b5", func := "trank/tranklaw02.CurveInverse", spec := "curveInverse", unfollowed := true, recurses := true, named := ["trank/curve.zero"], apart := false, laid := [("trank/curve.zero", laid_trank_curve_zero)] }
def CurveInverseSaid : Prop := curveInverseRow.holds Tryd.pinned (OpenSpec.ofChange curveInverseSpec)

/-- ITS FALSE NEIGHBOUR: 'it returns false'. Refute it at one input. -/
def curveInverseWrong : ChangeSpec := { name := "curveInverse", fn := fun _ => fun
  | [d] => { results := [.lit (.bool false)], args := [d] }
  | _ => none }
def CurveInverseWrongFalsely : Prop := curveInverseRow.holds Tryd.pinned (OpenSpec.ofChange curveInverseWrong)

/-- 'tranklaw02.CurveScale': WHATEVER THE INPUT: true; the input reads as it did. -/
def curveScaleSpec : ChangeSpec := { name := "curveScale", fn := fun _ => fun
  | [d1, d2, d3] => { results := [.lit (.bool true)], args := [d1, d2, d3] }
  | _ => none }
def curveScaleRow : OpenClaim := { program := "ytfkclcoipadhmaadoor", sum := "950c346c401f18e9f03f2e45aad63b9f259c8e7a1a09142a51d9a65c1d0f42b5", func := "trank/tranklaw02.CurveScale", spec := "curveScale", unfollowed := true, recurses := true, named := ["trank/curve.zero"], apart := false, laid := [("trank/curve.zero", laid_trank_curve_zero)] }
def CurveScaleSaid : Prop := curveScaleRow.holds Tryd.pinned (OpenSpec.ofChange curveScaleSpec)

/-- ITS FALSE NEIGHBOUR: 'it returns false'. Refute it at one input. -/
def curveScaleWrong : ChangeSpec := { name := "curveScale", fn := fun _ => fun
  | [d1, d2, d3] => { results := [.lit (.bool false)], args := [d1, d2, d3] }
  | _ => none }
def CurveScaleWrongFalsely : Prop := curveScaleRow.holds Tryd.pinned (OpenSpec.ofChange curveScaleWrong)

/-- 'tranklaw02.CurveMorgan': WHATEVER THE INPUT: true; the input reads as it did. -/
def curveMorganSpec : ChangeSpec := { name := "curveMorgan", fn := fun _ => fun
  | [d1, d2] => { results := [.lit (.bool true)], args := [d1, d2] }
  | _ => none }
def curveMorganRow : OpenClaim := { program := "ytfkclcoipadhmaadoor", sum := "950c346c401f18e9f03f2e45aad63b9f259c8e7a1a09142a51d9a65c1d0f42b5", func := "trank/tranklaw02.CurveMorgan", spec := "curveMorgan", unfollowed := true, recurses := true, named := ["trank/curve.zero"], apart := false, laid := [("trank/curve.zero", laid_trank_curve_zero)] }
def CurveMorganSaid : Prop := curveMorganRow.holds Tryd.pinned (OpenSpec.ofChange curveMorganSpec)

/-- ITS FALSE NEIGHBOUR: 'it returns false'. Refute it at one input. -/
def curveMorganWrong : ChangeSpec := { name := "curveMorgan", fn := fun _ => fun
  | [d1, d2] => { results := [.lit (.bool false)], args := [d1, d2] }
  | _ => none }
def CurveMorganWrongFalsely : Prop := curveMorganRow.holds Tryd.pinned (OpenSpec.ofChange curveMorganWrong)

/-- 'tranklaw02.CurveJoin': WHATEVER THE INPUT: true; the input reads as it did. -/
def curveJoinSpec : ChangeSpec := { name := "curveJoin", fn := fun _ => fun
  | [d1, d2] => { results := [.lit (.bool true)], args := [d1, d2] }
  | _ => none }
def curveJoinRow : OpenClaim := { program := "ytfkclcoipadhmaadoor", sum := "950c346c401f18e9f03f2e45aad63b9f259c8e7a1a09142a51d9a65c1d0f42b5", func := "trank/tranklaw02.CurveJoin", spec := "curveJoin", unfollowed := true, recurses := true, named := ["trank/curve.zero"], apart := false, laid := [("trank/curve.zero", laid_trank_curve_zero)] }
def CurveJoinSaid : Prop := curveJoinRow.holds Tryd.pinned (OpenSpec.ofChange curveJoinSpec)

/-- ITS FALSE NEIGHBOUR: 'it returns false'. Refute it at one input. -/
def curveJoinWrong : ChangeSpec := { name := "curveJoin", fn := fun _ => fun
  | [d1, d2] => { results := [.lit (.bool false)], args := [d1, d2] }
  | _ => none }
def CurveJoinWrongFalsely : Prop := curveJoinRow.holds Tryd.pinned (OpenSpec.ofChange curveJoinWrong)

/-- 'tranklaw02.CurveMeans': WHATEVER THE INPUT: true; the input reads as it did. -/
def curveMeansSpec : ChangeSpec := { name := "curveMeans", fn := fun _ => fun
  | [d1, d2] => { results := [.lit (.bool true)], args := [d1, d2] }
  | _ => none }
def curveMeansRow : OpenClaim := { program := "ytfkclcoipadhmaadoor", sum := "950c346c401f18e9f03f2e45aad63b9f259c8e7a1a09142a51d9a65c1d0f42b5", func := "trank/tranklaw02.CurveMeans", spec := "curveMeans", unfollowed := true, recurses := true, named := ["trank/curve.zero"], apart := false, laid := [("trank/curve.zero", laid_trank_curve_zero)] }
def CurveMeansSaid : Prop := curveMeansRow.holds Tryd.pinned (OpenSpec.ofChange curveMeansSpec)

/-- ITS FALSE NEIGHBOUR: 'it returns false'. Refute it at one input. -/
def curveMeansWrong : ChangeSpec := { name := "curveMeans", fn := fun _ => fun
  | [d1, d2] => { results := [.lit (.bool false)], args := [d1, d2] }
  | _ => none }
def CurveMeansWrongFalsely : Prop := curveMeansRow.holds Tryd.pinned (OpenSpec.ofChange curveMeansWrong)

/-- 'tranklaw02.CurveRound': WHATEVER THE INPUT: true; the input reads as it did. -/
def curveRoundSpec : ChangeSpec := { name := "curveRound", fn := fun _ => fun
  | [d] => { results := [.lit (.bool true)], args := [d] }
  | _ => none }
def curveRoundRow : OpenClaim := { program := "ytfkclcoipadhmaadoor", sum := "950c346c401f18e9f03f2e45aad63b9f259c8e7a1a09142a51d9a65c1d0f42b5", func := "trank/tranklaw02.CurveRound", spec := "curveRound", unfollowed := true, recurses := true, named := ["trank/curve.zero"], apart := false, laid := [("trank/curve.zero", laid_trank_curve_zero)] }
def CurveRoundSaid : Prop := curveRoundRow.holds Tryd.pinned (OpenSpec.ofChange curveRoundSpec)

/-- ITS FALSE NEIGHBOUR: 'it returns false'. Refute it at one input. -/
def curveRoundWrong : ChangeSpec := { name := "curveRound", fn := fun _ => fun
  | [d] => { results := [.lit (.bool false)], args := [d] }
  | _ => none }
def CurveRoundWrongFalsely : Prop := curveRoundRow.holds Tryd.pinned (OpenSpec.ofChange curveRoundWrong)

/-- 'tranklaw02.CurveHulls': WHATEVER THE INPUT: true; the input reads as it did. -/
def curveHullsSpec : ChangeSpec := { name := "curveHulls", fn := fun _ => fun
  | [d] => { results := [.lit (.bool true)], args := [d] }
  | _ => none }
def curveHullsRow : OpenClaim := { program := "ytfkclcoipadhmaadoor", sum := "950c346c401f18e9f03f2e45aad63b9f259c8e7a1a09142a51d9a65c1d0f42b5", func := "trank/tranklaw02.CurveHulls", spec := "curveHulls", unfollowed := true, recurses := true, named := ["trank/curve.zero"], apart := false, laid := [("trank/curve.zero", laid_trank_curve_zero)] }
def CurveHullsSaid : Prop := curveHullsRow.holds Tryd.pinned (OpenSpec.ofChange curveHullsSpec)

/-- ITS FALSE NEIGHBOUR: 'it returns false'. Refute it at one input. -/
def curveHullsWrong : ChangeSpec := { name := "curveHulls", fn := fun _ => fun
  | [d] => { results := [.lit (.bool false)], args := [d] }
  | _ => none }
def CurveHullsWrongFalsely : Prop := curveHullsRow.holds Tryd.pinned (OpenSpec.ofChange curveHullsWrong)

/-- 'tranklaw02.CurveIsotone': WHATEVER THE INPUT: true; the input reads as it did. -/
def curveIsotoneSpec : ChangeSpec := { name := "curveIsotone", fn := fun _ => fun
  | [d] => { results := [.lit (.bool true)], args := [d] }
  | _ => none }
def curveIsotoneRow : OpenClaim := { program := "ytfkclcoipadhmaadoor", sum := "950c346c401f18e9f03f2e45aad63b9f259c8e7a1a09142a51d9a65c1d0f42b5", func := "trank/tranklaw02.CurveIsotone", spec := "curveIsotone", unfollowed := true, recurses := true, named := ["trank/curve.zero"], apart := false, laid := [("trank/curve.zero", laid_trank_curve_zero)] }
def CurveIsotoneSaid : Prop := curveIsotoneRow.holds Tryd.pinned (OpenSpec.ofChange curveIsotoneSpec)

/-- ITS FALSE NEIGHBOUR: 'it returns false'. Refute it at one input. -/
def curveIsotoneWrong : ChangeSpec := { name := "curveIsotone", fn := fun _ => fun
  | [d] => { results := [.lit (.bool false)], args := [d] }
  | _ => none }
def CurveIsotoneWrongFalsely : Prop := curveIsotoneRow.holds Tryd.pinned (OpenSpec.ofChange curveIsotoneWrong)

/-- 'tranklaw02.CurveHulled': WHATEVER THE INPUT: true; the input reads as it did. -/
def curveHulledSpec : ChangeSpec := { name := "curveHulled", fn := fun _ => fun
  | [d] => { results := [.lit (.bool true)], args := [d] }
  | _ => none }
def curveHulledRow : OpenClaim := { program := "ytfkclcoipadhmaadoor", sum := "950c346c401f18e9f03f2e45aad63b9f259c8e7a1a09142a51d9a65c1d0f42b5", func := "trank/tranklaw02.CurveHulled", spec := "curveHulled", unfollowed := true, recurses := true, named := ["trank/curve.zero"], apart := false, laid := [("trank/curve.zero", laid_trank_curve_zero)] }
def CurveHulledSaid : Prop := curveHulledRow.holds Tryd.pinned (OpenSpec.ofChange curveHulledSpec)

/-- ITS FALSE NEIGHBOUR: 'it returns false'. Refute it at one input. -/
def curveHulledWrong : ChangeSpec := { name := "curveHulled", fn := fun _ => fun
  | [d] => { results := [.lit (.bool false)], args := [d] }
  | _ => none }
def CurveHulledWrongFalsely : Prop := curveHulledRow.holds Tryd.pinned (OpenSpec.ofChange curveHulledWrong)

/-- 'tranklaw02.CurveSolves': WHATEVER THE INPUT: true; the input reads as it did. -/
def curveSolvesSpec : ChangeSpec := { name := "curveSolves", fn := fun _ => fun
  | [d1, d2] => { results := [.lit (.bool true)], args := [d1, d2] }
  | _ => none }
def curveSolvesRow : OpenClaim := { program := "ytfkclcoipadhmaadoor", sum := "950c346c401f18e9f03f2e45aad63b9f259c8e7a1a09142a51d9a65c1d0f42b5", func := "trank/tranklaw02.CurveSolves", spec := "curveSolves", unfollowed := true, recurses := true, named := ["trank/curve.zero"], apart := false, laid := [("trank/curve.zero", laid_trank_curve_zero)] }
def CurveSolvesSaid : Prop := curveSolvesRow.holds Tryd.pinned (OpenSpec.ofChange curveSolvesSpec)

/-- ITS FALSE NEIGHBOUR: 'it returns false'. Refute it at one input. -/
def curveSolvesWrong : ChangeSpec := { name := "curveSolves", fn := fun _ => fun
  | [d1, d2] => { results := [.lit (.bool false)], args := [d1, d2] }
  | _ => none }
def CurveSolvesWrongFalsely : Prop := curveSolvesRow.holds Tryd.pinned (OpenSpec.ofChange curveSolvesWrong)

/-- 'tranklaw02.CurveBetween': WHATEVER THE INPUT: true; the input reads as it did. -/
def curveBetweenSpec : ChangeSpec := { name := "curveBetween", fn := fun _ => fun
  | [d1, d2] => { results := [.lit (.bool true)], args := [d1, d2] }
  | _ => none }
def curveBetweenRow : OpenClaim := { program := "ytfkclcoipadhmaadoor", sum := "950c346c401f18e9f03f2e45aad63b9f259c8e7a1a09142a51d9a65c1d0f42b5", func := "trank/tranklaw02.CurveBetween", spec := "curveBetween", unfollowed := true, recurses := true, named := ["trank/curve.zero"], apart := false, laid := [("trank/curve.zero", laid_trank_curve_zero)] }
def CurveBetweenSaid : Prop := curveBetweenRow.holds Tryd.pinned (OpenSpec.ofChange curveBetweenSpec)

/-- ITS FALSE NEIGHBOUR: 'it returns false'. Refute it at one input. -/
def curveBetweenWrong : ChangeSpec := { name := "curveBetween", fn := fun _ => fun
  | [d1, d2] => { results := [.lit (.bool false)], args := [d1, d2] }
  | _ => none }
def CurveBetweenWrongFalsely : Prop := curveBetweenRow.holds Tryd.pinned (OpenSpec.ofChange curveBetweenWrong)

/-- 'tranktop.TopWorkAdds': WHATEVER THE INPUT: true; the input reads as it did. -/
def topWorkAddsSpec : ChangeSpec := { name := "topWorkAdds", fn := fun _ => fun
  | [d1, d2, d3] => { results := [.lit (.bool true)], args := [d1, d2, d3] }
  | _ => none }
def topWorkAddsRow : OpenClaim := { program := "ytfkclcoipadhmaadoor", sum := "950c346c401f18e9f03f2e45aad63b9f259c8e7a1a09142a51d9a65c1d0f42b5", func := "trank/tranktop.TopWorkAdds", spec := "topWorkAdds", unfollowed := true, recurses := true, named := ["trank/curve.zero"], apart := false, laid := [("trank/curve.zero", laid_trank_curve_zero)] }
def TopWorkAddsSaid : Prop := topWorkAddsRow.holds Tryd.pinned (OpenSpec.ofChange topWorkAddsSpec)

/-- ITS FALSE NEIGHBOUR: 'it returns false'. Refute it at one input. -/
def topWorkAddsWrong : ChangeSpec := { name := "topWorkAdds", fn := fun _ => fun
  | [d1, d2, d3] => { results := [.lit (.bool false)], args := [d1, d2, d3] }
  | _ => none }
def TopWorkAddsWrongFalsely : Prop := topWorkAddsRow.holds Tryd.pinned (OpenSpec.ofChange topWorkAddsWrong)

/- THE SECOND FORM. 'bulk': how many values and letters a reading holds, each counted each time it is reached (what is shared counts as often as it is met; a slice's spare places count too). A statement '..UptoSaid' is the law's where the arguments, and the package variables that the reading takes, are together of bulk at most 1048576: NARROWER than '..Said'. Prove '..Said' where nothing that the law and all that it calls make is longer than what came in: it says more and counts as full. Else prove '..UptoSaid'. A law counts once. -/
mutual
def uptoBulk {H : Type} : DataW H → Nat
  | .lit (.string bytes) => bytes.length + 1
  | .lit _ => 1
  | .nil => 1
  | .ptr d => uptoBulk d + 1
  | .slice elems spare => uptoBulkAll elems + uptoBulkAll spare + 1
  | .agg parts => uptoBulkAll parts + 1
  | .iface _ d => uptoBulk d + 1
  | .map entries => uptoBulkEntries entries + 1
  | .held _ => 1
def uptoBulkAll {H : Type} : List (DataW H) → Nat
  | [] => 0
  | d :: r => uptoBulk d + uptoBulkAll r
def uptoBulkEntries {H : Type} : List (Lit × DataW H) → Nat
  | [] => 0
  | x :: r => uptoBulkEntry x + uptoBulkEntries r
def uptoBulkEntry {H : Type} : Lit × DataW H → Nat
  | (.string bytes, d) => bytes.length + uptoBulk d + 1
  | (_, d) => uptoBulk d + 1
 end
def uptoSmall : (H : Type) → List (DataW H) → Bool := fun _ ds => decide (uptoBulkAll ds ≤ 1048576)
def OpenSpec.upto (s : _root_.Go.ChangeSpec) : _root_.Go.OpenSpec := { _root_.Go.OpenSpec.ofChange s with cond := some uptoSmall }

/-- 'tranklaw02.CurveValid', WHERE WHAT IT READS IS OF BULK AT MOST 1048576: true; the input reads as it did. -/
def curveValidUptoRow : OpenClaim := { program := "ytfkclcoipadhmaadoor", sum := "950c346c401f18e9f03f2e45aad63b9f259c8e7a1a09142a51d9a65c1d0f42b5", func := "trank/tranklaw02.CurveValid", spec := "curveValid", unfollowed := true, recurses := true, named := ["trank/curve.zero"], apart := false, laid := [("trank/curve.zero", laid_trank_curve_zero)], narrowed := true }
def CurveValidUptoSaid : Prop := curveValidUptoRow.holds Tryd.pinned (OpenSpec.upto curveValidSpec)

/-- 'tranklaw02.CurveInverse', WHERE WHAT IT READS IS OF BULK AT MOST 1048576: true; the input reads as it did. -/
def curveInverseUptoRow : OpenClaim := { program := "ytfkclcoipadhmaadoor", sum := "950c346c401f18e9f03f2e45aad63b9f259c8e7a1a09142a51d9a65c1d0f42b5", func := "trank/tranklaw02.CurveInverse", spec := "curveInverse", unfollowed := true, recurses := true, named := ["trank/curve.zero"], apart := false, laid := [("trank/curve.zero", laid_trank_curve_zero)], narrowed := true }
def CurveInverseUptoSaid : Prop := curveInverseUptoRow.holds Tryd.pinned (OpenSpec.upto curveInverseSpec)

/-- 'tranklaw02.CurveScale', WHERE WHAT IT READS IS OF BULK AT MOST 1048576: true; the input reads as it did. -/
def curveScaleUptoRow : OpenClaim := { program := "ytfkclcoipadhmaadoor", sum := "950c346c401f18e9f03f2e45aad63b9f259c8e7a1a09142a51d9a65c1d0f42b5", func := "trank/tranklaw02.CurveScale", spec := "curveScale", unfollowed := true, recurses := true, named := ["trank/curve.zero"], apart := false, laid := [("trank/curve.zero", laid_trank_curve_zero)], narrowed := true }
def CurveScaleUptoSaid : Prop := curveScaleUptoRow.holds Tryd.pinned (OpenSpec.upto curveScaleSpec)

/-- 'tranklaw02.CurveMorgan', WHERE WHAT IT READS IS OF BULK AT MOST 1048576: true; the input reads as it did. -/
def curveMorganUptoRow : OpenClaim := { program := "ytfkclcoipadhmaadoor", sum := "950c346c401f18e9f03f2e45aad63b9f259c8e7a1a09142a51d9a65c1d0f42b5", func := "trank/tranklaw02.CurveMorgan", spec := "curveMorgan", unfollowed := true, recurses := true, named := ["trank/curve.zero"], apart := false, laid := [("trank/curve.zero", laid_trank_curve_zero)], narrowed := true }
def CurveMorganUptoSaid : Prop := curveMorganUptoRow.holds Tryd.pinned (OpenSpec.upto curveMorganSpec)

/-- 'tranklaw02.CurveJoin', WHERE WHAT IT READS IS OF BULK AT MOST 1048576: true; the input reads as it did. -/
def curveJoinUptoRow : OpenClaim := { program := "ytfkclcoipadhmaadoor", sum := "950c346c401f18e9f03f2e45aad63b9f259c8e7a1a09142a51d9a65c1d0f42b5", func := "trank/tranklaw02.CurveJoin", spec := "curveJoin", unfollowed := true, recurses := true, named := ["trank/curve.zero"], apart := false, laid := [("trank/curve.zero", laid_trank_curve_zero)], narrowed := true }
def CurveJoinUptoSaid : Prop := curveJoinUptoRow.holds Tryd.pinned (OpenSpec.upto curveJoinSpec)

/-- 'tranklaw02.CurveMeans', WHERE WHAT IT READS IS OF BULK AT MOST 1048576: true; the input reads as it did. -/
def curveMeansUptoRow : OpenClaim := { program := "ytfkclcoipadhmaadoor", sum := "950c346c401f18e9f03f2e45aad63b9f259c8e7a1a09142a51d9a65c1d0f42b5", func := "trank/tranklaw02.CurveMeans", spec := "curveMeans", unfollowed := true, recurses := true, named := ["trank/curve.zero"], apart := false, laid := [("trank/curve.zero", laid_trank_curve_zero)], narrowed := true }
def CurveMeansUptoSaid : Prop := curveMeansUptoRow.holds Tryd.pinned (OpenSpec.upto curveMeansSpec)

/-- 'tranklaw02.CurveRound', WHERE WHAT IT READS IS OF BULK AT MOST 1048576: true; the input reads as it did. -/
def curveRoundUptoRow : OpenClaim := { program := "ytfkclcoipadhmaadoor", sum := "950c346c401f18e9f03f2e45aad63b9f259c8e7a1a09142a51d9a65c1d0f42b5", func := "trank/tranklaw02.CurveRound", spec := "curveRound", unfollowed := true, recurses := true, named := ["trank/curve.zero"], apart := false, laid := [("trank/curve.zero", laid_trank_curve_zero)], narrowed := true }
def CurveRoundUptoSaid : Prop := curveRoundUptoRow.holds Tryd.pinned (OpenSpec.upto curveRoundSpec)

/-- 'tranklaw02.CurveHulls', WHERE WHAT IT READS IS OF BULK AT MOST 1048576: true; the input reads as it did. -/
def curveHullsUptoRow : OpenClaim := { program := "ytfkclcoipadhmaadoor", sum := "950c346c401f18e9f03f2e45aad63b9f259c8e7a1a09142a51d9a65c1d0f42b5", func := "trank/tranklaw02.CurveHulls", spec := "curveHulls", unfollowed := true, recurses := true, named := ["trank/curve.zero"], apart := false, laid := [("trank/curve.zero", laid_trank_curve_zero)], narrowed := true }
def CurveHullsUptoSaid : Prop := curveHullsUptoRow.holds Tryd.pinned (OpenSpec.upto curveHullsSpec)

/-- 'tranklaw02.CurveIsotone', WHERE WHAT IT READS IS OF BULK AT MOST 1048576: true; the input reads as it did. -/
def curveIsotoneUptoRow : OpenClaim := { program := "ytfkclcoipadhmaadoor", sum := "950c346c401f18e9f03f2e45aad63b9f259c8e7a1a09142a51d9a65c1d0f42b5", func := "trank/tranklaw02.CurveIsotone", spec := "curveIsotone", unfollowed := true, recurses := true, named := ["trank/curve.zero"], apart := false, laid := [("trank/curve.zero", laid_trank_curve_zero)], narrowed := true }
def CurveIsotoneUptoSaid : Prop := curveIsotoneUptoRow.holds Tryd.pinned (OpenSpec.upto curveIsotoneSpec)

/-- 'tranklaw02.CurveHulled', WHERE WHAT IT READS IS OF BULK AT MOST 1048576: true; the input reads as it did. -/
def curveHulledUptoRow : OpenClaim := { program := "ytfkclcoipadhmaadoor", sum := "950c346c401f18e9f03f2e45aad63b9f259c8e7a1a09142a51d9a65c1d0f42b5", func := "trank/tranklaw02.CurveHulled", spec := "curveHulled", unfollowed := true, recurses := true, named := ["trank/curve.zero"], apart := false, laid := [("trank/curve.zero", laid_trank_curve_zero)], narrowed := true }
def CurveHulledUptoSaid : Prop := curveHulledUptoRow.holds Tryd.pinned (OpenSpec.upto curveHulledSpec)

/-- 'tranklaw02.CurveSolves', WHERE WHAT IT READS IS OF BULK AT MOST 1048576: true; the input reads as it did. -/
def curveSolvesUptoRow : OpenClaim := { program := "ytfkclcoipadhmaadoor", sum := "950c346c401f18e9f03f2e45aad63b9f259c8e7a1a09142a51d9a65c1d0f42b5", func := "trank/tranklaw02.CurveSolves", spec := "curveSolves", unfollowed := true, recurses := true, named := ["trank/curve.zero"], apart := false, laid := [("trank/curve.zero", laid_trank_curve_zero)], narrowed := true }
def CurveSolvesUptoSaid : Prop := curveSolvesUptoRow.holds Tryd.pinned (OpenSpec.upto curveSolvesSpec)

/-- 'tranklaw02.CurveBetween', WHERE WHAT IT READS IS OF BULK AT MOST 1048576: true; the input reads as it did. -/
def curveBetweenUptoRow : OpenClaim := { program := "ytfkclcoipadhmaadoor", sum := "950c346c401f18e9f03f2e45aad63b9f259c8e7a1a09142a51d9a65c1d0f42b5", func := "trank/tranklaw02.CurveBetween", spec := "curveBetween", unfollowed := true, recurses := true, named := ["trank/curve.zero"], apart := false, laid := [("trank/curve.zero", laid_trank_curve_zero)], narrowed := true }
def CurveBetweenUptoSaid : Prop := curveBetweenUptoRow.holds Tryd.pinned (OpenSpec.upto curveBetweenSpec)

/-- 'tranktop.TopWorkAdds', WHERE WHAT IT READS IS OF BULK AT MOST 1048576: true; the input reads as it did. -/
def topWorkAddsUptoRow : OpenClaim := { program := "ytfkclcoipadhmaadoor", sum := "950c346c401f18e9f03f2e45aad63b9f259c8e7a1a09142a51d9a65c1d0f42b5", func := "trank/tranktop.TopWorkAdds", spec := "topWorkAdds", unfollowed := true, recurses := true, named := ["trank/curve.zero"], apart := false, laid := [("trank/curve.zero", laid_trank_curve_zero)], narrowed := true }
def TopWorkAddsUptoSaid : Prop := topWorkAddsUptoRow.holds Tryd.pinned (OpenSpec.upto topWorkAddsSpec)

end Rows
end Go.Proofs.YtfkclcoipadhmaaDoor
