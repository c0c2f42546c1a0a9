/-
  NARROWER THAN 'FOR EVERY INPUT', by the rows' own cells (each row's printed sentence says how): CurveSum: laid · CurveCompose: laid · CurveUnder: laid · CurveCut: laid · CurveAt: laid · CurveWork: laid · CurveEnvelopes: laid.
  DERIVED. THE GIVEN ROWS OF THIS SEAT. 7 by the template 'for every input the law returns true; each argument reads behind the call as it read before'; 0 by the template 'total and deterministic' (their statements: YtfkclcoipadhmaaGreatDoorTotals.lean).
  GIVEN WITH THE SEED: the statements are not yours to turn. If you find one false, say at which input.
  Laid BY PROGRAM, IN A SANDBOX (cutbox-rows.mjs): the forced cells as the released guide's own fill.sh prints them over the translation 065868376735c603… (all of the seat's roots in one cut). By AI agents, Wed Nov 11 2026. No macro, syntax, notation, axiom, sorry.
-/
import Derived.Test.YtfkclcoipadhmaaGreatDoorChecked
import GoSem.Claim
import GoSem.ClaimJoined
import GoSem.ClaimMapViews
import Derived.JoinedTies
import Derived.KernelRfl
namespace Go.Proofs.YtfkclcoipadhmaaGreatDoor
/- THE CELL 'sum', in the pinned program and in every row, IS THE sha256 OF THE DUMP (.gsa) THAT YtfkclcoipadhmaaGreatDoorProg.lean LOADS. Nothing in Lean hashes anything: it is a label: what it is worth is what the hold of that sum in a sandbox is worth. -/
noncomputable def Tryz.pinned : Pinned := { name := "ytfkclcoipadhmaagreatdoor", sum := "065868376735c603e0a0148c09ecbab71f0ce374041c57fbd974433d700f9b06", checked := Tryz.checked }
namespace Rows
def none {H : Type} : Left H := { results := [], args := [] }

/- WHAT THE LISTED PACKAGE-LEVEL VARIABLES READ AS WHEN THE CALL BEGINS. Each datum BY PROGRAM (the guide's laid-datum.mjs) off the statement by which the dump's own 'gosem.cut.vars' lays the variable. In a bare row this is a premise. The card (YtfkclcoipadhmaaGreatDoorCards.lean) ties it to the program's text. -/
def laid_trank_curve_zero {H : Type} : DataW H := .agg [.lit (.int .i64 0), .lit (.int .i64 1)]

/-- 'tranklaw02.CurveSum': WHATEVER THE INPUT: true; the input reads as it did. -/
def curveSumSpec : ChangeSpec := { name := "curveSum", fn := fun _ => fun
  | [d1, d2] => { results := [.lit (.bool true)], args := [d1, d2] }
  | _ => none }
def curveSumRow : OpenClaim := { program := "ytfkclcoipadhmaagreatdoor", sum := "065868376735c603e0a0148c09ecbab71f0ce374041c57fbd974433d700f9b06", func := "trank/tranklaw02.CurveSum", spec := "curveSum", unfollowed := true, recurses := true, named := ["trank/curve.zero"], apart := false, laid := [("trank/curve.zero", laid_trank_curve_zero)] }
def CurveSumSaid : Prop := curveSumRow.holds Tryz.pinned (OpenSpec.ofChange curveSumSpec)

/-- ITS FALSE NEIGHBOUR: 'it returns false'. Refute it at one input. -/
def curveSumWrong : ChangeSpec := { name := "curveSum", fn := fun _ => fun
  | [d1, d2] => { results := [.lit (.bool false)], args := [d1, d2] }
  | _ => none }
def CurveSumWrongFalsely : Prop := curveSumRow.holds Tryz.pinned (OpenSpec.ofChange curveSumWrong)

/-- 'tranklaw02.CurveCompose': WHATEVER THE INPUT: true; the input reads as it did. -/
def curveComposeSpec : ChangeSpec := { name := "curveCompose", fn := fun _ => fun
  | [d1, d2] => { results := [.lit (.bool true)], args := [d1, d2] }
  | _ => none }
def curveComposeRow : OpenClaim := { program := "ytfkclcoipadhmaagreatdoor", sum := "065868376735c603e0a0148c09ecbab71f0ce374041c57fbd974433d700f9b06", func := "trank/tranklaw02.CurveCompose", spec := "curveCompose", unfollowed := true, recurses := true, named := ["trank/curve.zero"], apart := false, laid := [("trank/curve.zero", laid_trank_curve_zero)] }
def CurveComposeSaid : Prop := curveComposeRow.holds Tryz.pinned (OpenSpec.ofChange curveComposeSpec)

/-- ITS FALSE NEIGHBOUR: 'it returns false'. Refute it at one input. -/
def curveComposeWrong : ChangeSpec := { name := "curveCompose", fn := fun _ => fun
  | [d1, d2] => { results := [.lit (.bool false)], args := [d1, d2] }
  | _ => none }
def CurveComposeWrongFalsely : Prop := curveComposeRow.holds Tryz.pinned (OpenSpec.ofChange curveComposeWrong)

/-- 'tranklaw02.CurveUnder': WHATEVER THE INPUT: true; the input reads as it did. -/
def curveUnderSpec : ChangeSpec := { name := "curveUnder", fn := fun _ => fun
  | [d1, d2] => { results := [.lit (.bool true)], args := [d1, d2] }
  | _ => none }
def curveUnderRow : OpenClaim := { program := "ytfkclcoipadhmaagreatdoor", sum := "065868376735c603e0a0148c09ecbab71f0ce374041c57fbd974433d700f9b06", func := "trank/tranklaw02.CurveUnder", spec := "curveUnder", unfollowed := true, recurses := true, named := ["trank/curve.zero"], apart := false, laid := [("trank/curve.zero", laid_trank_curve_zero)] }
def CurveUnderSaid : Prop := curveUnderRow.holds Tryz.pinned (OpenSpec.ofChange curveUnderSpec)

/-- ITS FALSE NEIGHBOUR: 'it returns false'. Refute it at one input. -/
def curveUnderWrong : ChangeSpec := { name := "curveUnder", fn := fun _ => fun
  | [d1, d2] => { results := [.lit (.bool false)], args := [d1, d2] }
  | _ => none }
def CurveUnderWrongFalsely : Prop := curveUnderRow.holds Tryz.pinned (OpenSpec.ofChange curveUnderWrong)

/-- 'tranklaw02.CurveCut': WHATEVER THE INPUT: true; the input reads as it did. -/
def curveCutSpec : ChangeSpec := { name := "curveCut", fn := fun _ => fun
  | [d1, d2] => { results := [.lit (.bool true)], args := [d1, d2] }
  | _ => none }
def curveCutRow : OpenClaim := { program := "ytfkclcoipadhmaagreatdoor", sum := "065868376735c603e0a0148c09ecbab71f0ce374041c57fbd974433d700f9b06", func := "trank/tranklaw02.CurveCut", spec := "curveCut", unfollowed := true, recurses := true, named := ["trank/curve.zero"], apart := false, laid := [("trank/curve.zero", laid_trank_curve_zero)] }
def CurveCutSaid : Prop := curveCutRow.holds Tryz.pinned (OpenSpec.ofChange curveCutSpec)

/-- ITS FALSE NEIGHBOUR: 'it returns false'. Refute it at one input. -/
def curveCutWrong : ChangeSpec := { name := "curveCut", fn := fun _ => fun
  | [d1, d2] => { results := [.lit (.bool false)], args := [d1, d2] }
  | _ => none }
def CurveCutWrongFalsely : Prop := curveCutRow.holds Tryz.pinned (OpenSpec.ofChange curveCutWrong)

/-- 'tranklaw02.CurveAt': WHATEVER THE INPUT: true; the input reads as it did. -/
def curveAtSpec : ChangeSpec := { name := "curveAt", fn := fun _ => fun
  | [d1, d2] => { results := [.lit (.bool true)], args := [d1, d2] }
  | _ => none }
def curveAtRow : OpenClaim := { program := "ytfkclcoipadhmaagreatdoor", sum := "065868376735c603e0a0148c09ecbab71f0ce374041c57fbd974433d700f9b06", func := "trank/tranklaw02.CurveAt", spec := "curveAt", unfollowed := true, recurses := true, named := ["trank/curve.zero"], apart := false, laid := [("trank/curve.zero", laid_trank_curve_zero)] }
def CurveAtSaid : Prop := curveAtRow.holds Tryz.pinned (OpenSpec.ofChange curveAtSpec)

/-- ITS FALSE NEIGHBOUR: 'it returns false'. Refute it at one input. -/
def curveAtWrong : ChangeSpec := { name := "curveAt", fn := fun _ => fun
  | [d1, d2] => { results := [.lit (.bool false)], args := [d1, d2] }
  | _ => none }
def CurveAtWrongFalsely : Prop := curveAtRow.holds Tryz.pinned (OpenSpec.ofChange curveAtWrong)

/-- 'tranklaw02.CurveWork': WHATEVER THE INPUT: true; the input reads as it did. -/
def curveWorkSpec : ChangeSpec := { name := "curveWork", fn := fun _ => fun
  | [d1, d2] => { results := [.lit (.bool true)], args := [d1, d2] }
  | _ => none }
def curveWorkRow : OpenClaim := { program := "ytfkclcoipadhmaagreatdoor", sum := "065868376735c603e0a0148c09ecbab71f0ce374041c57fbd974433d700f9b06", func := "trank/tranklaw02.CurveWork", spec := "curveWork", unfollowed := true, recurses := true, named := ["trank/curve.zero"], apart := false, laid := [("trank/curve.zero", laid_trank_curve_zero)] }
def CurveWorkSaid : Prop := curveWorkRow.holds Tryz.pinned (OpenSpec.ofChange curveWorkSpec)

/-- ITS FALSE NEIGHBOUR: 'it returns false'. Refute it at one input. -/
def curveWorkWrong : ChangeSpec := { name := "curveWork", fn := fun _ => fun
  | [d1, d2] => { results := [.lit (.bool false)], args := [d1, d2] }
  | _ => none }
def CurveWorkWrongFalsely : Prop := curveWorkRow.holds Tryz.pinned (OpenSpec.ofChange curveWorkWrong)

/-- 'tranklaw02.CurveEnvelopes': WHATEVER THE INPUT: true; the input reads as it did. -/
def curveEnvelopesSpec : ChangeSpec := { name := "curveEnvelopes", fn := fun _ => fun
  | [d1, d2] => { results := [.lit (.bool true)], args := [d1, d2] }
  | _ => none }
def curveEnvelopesRow : OpenClaim := { program := "ytfkclcoipadhmaagreatdoor", sum := "065868376735c603e0a0148c09ecbab71f0ce374041c57fbd974433d700f9b06", func := "trank/tranklaw02.CurveEnvelopes", spec := "curveEnvelopes", unfollowed := true, recurses := true, named := ["trank/curve.zero"], apart := false, laid := [("trank/curve.zero", laid_trank_curve_zero)] }
def CurveEnvelopesSaid : Prop := curveEnvelopesRow.holds Tryz.pinned (OpenSpec.ofChange curveEnvelopesSpec)

/-- ITS FALSE NEIGHBOUR: 'it returns false'. Refute it at one input. -/
def curveEnvelopesWrong : ChangeSpec := { name := "curveEnvelopes", fn := fun _ => fun
  | [d1, d2] => { results := [.lit (.bool false)], args := [d1, d2] }
  | _ => none }
def CurveEnvelopesWrongFalsely : Prop := curveEnvelopesRow.holds Tryz.pinned (OpenSpec.ofChange curveEnvelopesWrong)

/- THE SECOND FORM. 'bulk': how many values and letters a reading holds, each counted each time it is reached (what is shared counts as often as it is met; a slice's spare places count too). A statement '..UptoSaid' is the law's where the arguments, and the package variables that the reading takes, are together of bulk at most 1048576: NARROWER than '..Said'. Prove '..Said' where nothing that the law and all that it calls make is longer than what came in: it says more and counts as full. Else prove '..UptoSaid'. A law counts once. -/
mutual
def uptoBulk {H : Type} : DataW H → Nat
  | .lit (.string bytes) => bytes.length + 1
  | .lit _ => 1
  | .nil => 1
  | .ptr d => uptoBulk d + 1
  | .slice elems spare => uptoBulkAll elems + uptoBulkAll spare + 1
  | .agg parts => uptoBulkAll parts + 1
  | .iface _ d => uptoBulk d + 1
  | .map entries => uptoBulkEntries entries + 1
  | .held _ => 1
def uptoBulkAll {H : Type} : List (DataW H) → Nat
  | [] => 0
  | d :: r => uptoBulk d + uptoBulkAll r
def uptoBulkEntries {H : Type} : List (Lit × DataW H) → Nat
  | [] => 0
  | x :: r => uptoBulkEntry x + uptoBulkEntries r
def uptoBulkEntry {H : Type} : Lit × DataW H → Nat
  | (.string bytes, d) => bytes.length + uptoBulk d + 1
  | (_, d) => uptoBulk d + 1
 end
def uptoSmall : (H : Type) → List (DataW H) → Bool := fun _ ds => decide (uptoBulkAll ds ≤ 1048576)
def OpenSpec.upto (s : _root_.Go.ChangeSpec) : _root_.Go.OpenSpec := { _root_.Go.OpenSpec.ofChange s with cond := some uptoSmall }

/-- 'tranklaw02.CurveSum', WHERE WHAT IT READS IS OF BULK AT MOST 1048576: true; the input reads as it did. -/
def curveSumUptoRow : OpenClaim := { program := "ytfkclcoipadhmaagreatdoor", sum := "065868376735c603e0a0148c09ecbab71f0ce374041c57fbd974433d700f9b06", func := "trank/tranklaw02.CurveSum", spec := "curveSum", unfollowed := true, recurses := true, named := ["trank/curve.zero"], apart := false, laid := [("trank/curve.zero", laid_trank_curve_zero)], narrowed := true }
def CurveSumUptoSaid : Prop := curveSumUptoRow.holds Tryz.pinned (OpenSpec.upto curveSumSpec)

/-- 'tranklaw02.CurveCompose', WHERE WHAT IT READS IS OF BULK AT MOST 1048576: true; the input reads as it did. -/
def curveComposeUptoRow : OpenClaim := { program := "ytfkclcoipadhmaagreatdoor", sum := "065868376735c603e0a0148c09ecbab71f0ce374041c57fbd974433d700f9b06", func := "trank/tranklaw02.CurveCompose", spec := "curveCompose", unfollowed := true, recurses := true, named := ["trank/curve.zero"], apart := false, laid := [("trank/curve.zero", laid_trank_curve_zero)], narrowed := true }
def CurveComposeUptoSaid : Prop := curveComposeUptoRow.holds Tryz.pinned (OpenSpec.upto curveComposeSpec)

/-- 'tranklaw02.CurveUnder', WHERE WHAT IT READS IS OF BULK AT MOST 1048576: true; the input reads as it did. -/
def curveUnderUptoRow : OpenClaim := { program := "ytfkclcoipadhmaagreatdoor", sum := "065868376735c603e0a0148c09ecbab71f0ce374041c57fbd974433d700f9b06", func := "trank/tranklaw02.CurveUnder", spec := "curveUnder", unfollowed := true, recurses := true, named := ["trank/curve.zero"], apart := false, laid := [("trank/curve.zero", laid_trank_curve_zero)], narrowed := true }
def CurveUnderUptoSaid : Prop := curveUnderUptoRow.holds Tryz.pinned (OpenSpec.upto curveUnderSpec)

/-- 'tranklaw02.CurveCut', WHERE WHAT IT READS IS OF BULK AT MOST 1048576: true; the input reads as it did. -/
def curveCutUptoRow : OpenClaim := { program := "ytfkclcoipadhmaagreatdoor", sum := "065868376735c603e0a0148c09ecbab71f0ce374041c57fbd974433d700f9b06", func := "trank/tranklaw02.CurveCut", spec := "curveCut", unfollowed := true, recurses := true, named := ["trank/curve.zero"], apart := false, laid := [("trank/curve.zero", laid_trank_curve_zero)], narrowed := true }
def CurveCutUptoSaid : Prop := curveCutUptoRow.holds Tryz.pinned (OpenSpec.upto curveCutSpec)

/-- 'tranklaw02.CurveAt', WHERE WHAT IT READS IS OF BULK AT MOST 1048576: true; the input reads as it did. -/
def curveAtUptoRow : OpenClaim := { program := "ytfkclcoipadhmaagreatdoor", sum := "065868376735c603e0a0148c09ecbab71f0ce374041c57fbd974433d700f9b06", func := "trank/tranklaw02.CurveAt", spec := "curveAt", unfollowed := true, recurses := true, named := ["trank/curve.zero"], apart := false, laid := [("trank/curve.zero", laid_trank_curve_zero)], narrowed := true }
def CurveAtUptoSaid : Prop := curveAtUptoRow.holds Tryz.pinned (OpenSpec.upto curveAtSpec)

/-- 'tranklaw02.CurveWork', WHERE WHAT IT READS IS OF BULK AT MOST 1048576: true; the input reads as it did. -/
def curveWorkUptoRow : OpenClaim := { program := "ytfkclcoipadhmaagreatdoor", sum := "065868376735c603e0a0148c09ecbab71f0ce374041c57fbd974433d700f9b06", func := "trank/tranklaw02.CurveWork", spec := "curveWork", unfollowed := true, recurses := true, named := ["trank/curve.zero"], apart := false, laid := [("trank/curve.zero", laid_trank_curve_zero)], narrowed := true }
def CurveWorkUptoSaid : Prop := curveWorkUptoRow.holds Tryz.pinned (OpenSpec.upto curveWorkSpec)

/-- 'tranklaw02.CurveEnvelopes', WHERE WHAT IT READS IS OF BULK AT MOST 1048576: true; the input reads as it did. -/
def curveEnvelopesUptoRow : OpenClaim := { program := "ytfkclcoipadhmaagreatdoor", sum := "065868376735c603e0a0148c09ecbab71f0ce374041c57fbd974433d700f9b06", func := "trank/tranklaw02.CurveEnvelopes", spec := "curveEnvelopes", unfollowed := true, recurses := true, named := ["trank/curve.zero"], apart := false, laid := [("trank/curve.zero", laid_trank_curve_zero)], narrowed := true }
def CurveEnvelopesUptoSaid : Prop := curveEnvelopesUptoRow.holds Tryz.pinned (OpenSpec.upto curveEnvelopesSpec)

end Rows
end Go.Proofs.YtfkclcoipadhmaaGreatDoor
