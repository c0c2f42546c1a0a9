/-
  No cell of these rows narrows 'for every input' (looked for: loops, veiled, ifaces, maps, wideKeys, modest, calm, conditions, laid).
  DERIVED. THE GIVEN ROWS OF THIS SEAT. 19 by the template 'for every input the law returns true; each argument reads behind the call as it read before'; 0 by the template 'total and deterministic' (their statements: YtmknengmjepdaaaTotals.lean).
  GIVEN WITH THE SEED: the statements are not yours to turn. If you find one false, say at which input.
  Laid BY PROGRAM, IN A SANDBOX (cutbox-rows.mjs): the forced cells as the released guide's own fill.sh prints them over the translation 8a59ac9a00892fda… (all of the seat's roots in one cut). By AI agents, Wed Nov 11 2026. No macro, syntax, notation, axiom, sorry.
-/
import Derived.Test.YtmknengmjepdaaaChecked
import GoSem.Claim
import GoSem.ClaimJoined
import GoSem.ClaimMapViews
import Derived.JoinedTies
import Derived.KernelRfl
namespace Go.Proofs.Ytmknengmjepdaaa
/- THE CELL 'sum', in the pinned program and in every row, IS THE sha256 OF THE DUMP (.gsa) THAT YtmknengmjepdaaaProg.lean LOADS. Nothing in Lean hashes anything: it is a label: what it is worth is what the hold of that sum in a sandbox is worth. -/
noncomputable def Try.pinned : Pinned := { name := "ytmknengmjepdaaa", sum := "8a59ac9a00892fda446e9d972de76f62d2427290c53edff8b6a841ee9f79631d", checked := Try.checked }
namespace Rows
def none {H : Type} : Left H := { results := [], args := [] }

/-- 'tranklaw04.GradeLeast': WHATEVER THE INPUT: true; the input reads as it did. -/
def gradeLeastSpec : ChangeSpec := { name := "gradeLeast", fn := fun _ => fun
  | [d1, d2] => { results := [.lit (.bool true)], args := [d1, d2] }
  | _ => none }
def gradeLeastRow : OpenClaim := { program := "ytmknengmjepdaaa", sum := "8a59ac9a00892fda446e9d972de76f62d2427290c53edff8b6a841ee9f79631d", func := "trank/tranklaw04.GradeLeast", spec := "gradeLeast", unfollowed := true, recurses := true, apart := false }
def GradeLeastSaid : Prop := gradeLeastRow.holds Try.pinned (OpenSpec.ofChange gradeLeastSpec)

/-- ITS FALSE NEIGHBOUR: 'it returns false'. Refute it at one input. -/
def gradeLeastWrong : ChangeSpec := { name := "gradeLeast", fn := fun _ => fun
  | [d1, d2] => { results := [.lit (.bool false)], args := [d1, d2] }
  | _ => none }
def GradeLeastWrongFalsely : Prop := gradeLeastRow.holds Try.pinned (OpenSpec.ofChange gradeLeastWrong)

/-- 'tranklaw04.GradeGrowth': WHATEVER THE INPUT: true; the input reads as it did. -/
def gradeGrowthSpec : ChangeSpec := { name := "gradeGrowth", fn := fun _ => fun
  | [d1, d2, d3] => { results := [.lit (.bool true)], args := [d1, d2, d3] }
  | _ => none }
def gradeGrowthRow : OpenClaim := { program := "ytmknengmjepdaaa", sum := "8a59ac9a00892fda446e9d972de76f62d2427290c53edff8b6a841ee9f79631d", func := "trank/tranklaw04.GradeGrowth", spec := "gradeGrowth", unfollowed := true, recurses := true, apart := false }
def GradeGrowthSaid : Prop := gradeGrowthRow.holds Try.pinned (OpenSpec.ofChange gradeGrowthSpec)

/-- ITS FALSE NEIGHBOUR: 'it returns false'. Refute it at one input. -/
def gradeGrowthWrong : ChangeSpec := { name := "gradeGrowth", fn := fun _ => fun
  | [d1, d2, d3] => { results := [.lit (.bool false)], args := [d1, d2, d3] }
  | _ => none }
def GradeGrowthWrongFalsely : Prop := gradeGrowthRow.holds Try.pinned (OpenSpec.ofChange gradeGrowthWrong)

/-- 'tranklaw04.GradeLoops': WHATEVER THE INPUT: true; the input reads as it did. -/
def gradeLoopsSpec : ChangeSpec := { name := "gradeLoops", fn := fun _ => fun
  | [d1, d2] => { results := [.lit (.bool true)], args := [d1, d2] }
  | _ => none }
def gradeLoopsRow : OpenClaim := { program := "ytmknengmjepdaaa", sum := "8a59ac9a00892fda446e9d972de76f62d2427290c53edff8b6a841ee9f79631d", func := "trank/tranklaw04.GradeLoops", spec := "gradeLoops", unfollowed := true, recurses := true, apart := false }
def GradeLoopsSaid : Prop := gradeLoopsRow.holds Try.pinned (OpenSpec.ofChange gradeLoopsSpec)

/-- ITS FALSE NEIGHBOUR: 'it returns false'. Refute it at one input. -/
def gradeLoopsWrong : ChangeSpec := { name := "gradeLoops", fn := fun _ => fun
  | [d1, d2] => { results := [.lit (.bool false)], args := [d1, d2] }
  | _ => none }
def GradeLoopsWrongFalsely : Prop := gradeLoopsRow.holds Try.pinned (OpenSpec.ofChange gradeLoopsWrong)

/-- 'tranklaw04.GradeTight': WHATEVER THE INPUT: true; the input reads as it did. -/
def gradeTightSpec : ChangeSpec := { name := "gradeTight", fn := fun _ => fun
  | [d1, d2] => { results := [.lit (.bool true)], args := [d1, d2] }
  | _ => none }
def gradeTightRow : OpenClaim := { program := "ytmknengmjepdaaa", sum := "8a59ac9a00892fda446e9d972de76f62d2427290c53edff8b6a841ee9f79631d", func := "trank/tranklaw04.GradeTight", spec := "gradeTight", unfollowed := true, recurses := true, apart := false }
def GradeTightSaid : Prop := gradeTightRow.holds Try.pinned (OpenSpec.ofChange gradeTightSpec)

/-- ITS FALSE NEIGHBOUR: 'it returns false'. Refute it at one input. -/
def gradeTightWrong : ChangeSpec := { name := "gradeTight", fn := fun _ => fun
  | [d1, d2] => { results := [.lit (.bool false)], args := [d1, d2] }
  | _ => none }
def GradeTightWrongFalsely : Prop := gradeTightRow.holds Try.pinned (OpenSpec.ofChange gradeTightWrong)

/-- 'tranklaw04.GradeChains': WHATEVER THE INPUT: true; the input reads as it did. -/
def gradeChainsSpec : ChangeSpec := { name := "gradeChains", fn := fun _ => fun
  | [d1, d2, d3] => { results := [.lit (.bool true)], args := [d1, d2, d3] }
  | _ => none }
def gradeChainsRow : OpenClaim := { program := "ytmknengmjepdaaa", sum := "8a59ac9a00892fda446e9d972de76f62d2427290c53edff8b6a841ee9f79631d", func := "trank/tranklaw04.GradeChains", spec := "gradeChains", unfollowed := true, recurses := true, apart := false }
def GradeChainsSaid : Prop := gradeChainsRow.holds Try.pinned (OpenSpec.ofChange gradeChainsSpec)

/-- ITS FALSE NEIGHBOUR: 'it returns false'. Refute it at one input. -/
def gradeChainsWrong : ChangeSpec := { name := "gradeChains", fn := fun _ => fun
  | [d1, d2, d3] => { results := [.lit (.bool false)], args := [d1, d2, d3] }
  | _ => none }
def GradeChainsWrongFalsely : Prop := gradeChainsRow.holds Try.pinned (OpenSpec.ofChange gradeChainsWrong)

/-- 'tranklaw04.GradeEqual': WHATEVER THE INPUT: true; the input reads as it did. -/
def gradeEqualSpec : ChangeSpec := { name := "gradeEqual", fn := fun _ => fun
  | [d1, d2, d3] => { results := [.lit (.bool true)], args := [d1, d2, d3] }
  | _ => none }
def gradeEqualRow : OpenClaim := { program := "ytmknengmjepdaaa", sum := "8a59ac9a00892fda446e9d972de76f62d2427290c53edff8b6a841ee9f79631d", func := "trank/tranklaw04.GradeEqual", spec := "gradeEqual", unfollowed := true, recurses := true, apart := false }
def GradeEqualSaid : Prop := gradeEqualRow.holds Try.pinned (OpenSpec.ofChange gradeEqualSpec)

/-- ITS FALSE NEIGHBOUR: 'it returns false'. Refute it at one input. -/
def gradeEqualWrong : ChangeSpec := { name := "gradeEqual", fn := fun _ => fun
  | [d1, d2, d3] => { results := [.lit (.bool false)], args := [d1, d2, d3] }
  | _ => none }
def GradeEqualWrongFalsely : Prop := gradeEqualRow.holds Try.pinned (OpenSpec.ofChange gradeEqualWrong)

/-- 'tranklaw04.GradeGaps': WHATEVER THE INPUT: true; the input reads as it did. -/
def gradeGapsSpec : ChangeSpec := { name := "gradeGaps", fn := fun _ => fun
  | [d1, d2, d3] => { results := [.lit (.bool true)], args := [d1, d2, d3] }
  | _ => none }
def gradeGapsRow : OpenClaim := { program := "ytmknengmjepdaaa", sum := "8a59ac9a00892fda446e9d972de76f62d2427290c53edff8b6a841ee9f79631d", func := "trank/tranklaw04.GradeGaps", spec := "gradeGaps", unfollowed := true, recurses := true, apart := false }
def GradeGapsSaid : Prop := gradeGapsRow.holds Try.pinned (OpenSpec.ofChange gradeGapsSpec)

/-- ITS FALSE NEIGHBOUR: 'it returns false'. Refute it at one input. -/
def gradeGapsWrong : ChangeSpec := { name := "gradeGaps", fn := fun _ => fun
  | [d1, d2, d3] => { results := [.lit (.bool false)], args := [d1, d2, d3] }
  | _ => none }
def GradeGapsWrongFalsely : Prop := gradeGapsRow.holds Try.pinned (OpenSpec.ofChange gradeGapsWrong)

/-- 'tranklaw04.GradeSizes': WHATEVER THE INPUT: true; the input reads as it did. -/
def gradeSizesSpec : ChangeSpec := { name := "gradeSizes", fn := fun _ => fun
  | [d] => { results := [.lit (.bool true)], args := [d] }
  | _ => none }
def gradeSizesRow : OpenClaim := { program := "ytmknengmjepdaaa", sum := "8a59ac9a00892fda446e9d972de76f62d2427290c53edff8b6a841ee9f79631d", func := "trank/tranklaw04.GradeSizes", spec := "gradeSizes", unfollowed := true, recurses := true, apart := false }
def GradeSizesSaid : Prop := gradeSizesRow.holds Try.pinned (OpenSpec.ofChange gradeSizesSpec)

/-- ITS FALSE NEIGHBOUR: 'it returns false'. Refute it at one input. -/
def gradeSizesWrong : ChangeSpec := { name := "gradeSizes", fn := fun _ => fun
  | [d] => { results := [.lit (.bool false)], args := [d] }
  | _ => none }
def GradeSizesWrongFalsely : Prop := gradeSizesRow.holds Try.pinned (OpenSpec.ofChange gradeSizesWrong)

/-- 'tranklaw04.GradeEnds': WHATEVER THE INPUT: true; the input reads as it did. -/
def gradeEndsSpec : ChangeSpec := { name := "gradeEnds", fn := fun _ => fun
  | [d] => { results := [.lit (.bool true)], args := [d] }
  | _ => none }
def gradeEndsRow : OpenClaim := { program := "ytmknengmjepdaaa", sum := "8a59ac9a00892fda446e9d972de76f62d2427290c53edff8b6a841ee9f79631d", func := "trank/tranklaw04.GradeEnds", spec := "gradeEnds", unfollowed := true, recurses := true, apart := false }
def GradeEndsSaid : Prop := gradeEndsRow.holds Try.pinned (OpenSpec.ofChange gradeEndsSpec)

/-- ITS FALSE NEIGHBOUR: 'it returns false'. Refute it at one input. -/
def gradeEndsWrong : ChangeSpec := { name := "gradeEnds", fn := fun _ => fun
  | [d] => { results := [.lit (.bool false)], args := [d] }
  | _ => none }
def GradeEndsWrongFalsely : Prop := gradeEndsRow.holds Try.pinned (OpenSpec.ofChange gradeEndsWrong)

/-- 'tranklaw04.GradeConflicts': WHATEVER THE INPUT: true; the input reads as it did. -/
def gradeConflictsSpec : ChangeSpec := { name := "gradeConflicts", fn := fun _ => fun
  | [d] => { results := [.lit (.bool true)], args := [d] }
  | _ => none }
def gradeConflictsRow : OpenClaim := { program := "ytmknengmjepdaaa", sum := "8a59ac9a00892fda446e9d972de76f62d2427290c53edff8b6a841ee9f79631d", func := "trank/tranklaw04.GradeConflicts", spec := "gradeConflicts", unfollowed := true, recurses := true, apart := false }
def GradeConflictsSaid : Prop := gradeConflictsRow.holds Try.pinned (OpenSpec.ofChange gradeConflictsSpec)

/-- ITS FALSE NEIGHBOUR: 'it returns false'. Refute it at one input. -/
def gradeConflictsWrong : ChangeSpec := { name := "gradeConflicts", fn := fun _ => fun
  | [d] => { results := [.lit (.bool false)], args := [d] }
  | _ => none }
def GradeConflictsWrongFalsely : Prop := gradeConflictsRow.holds Try.pinned (OpenSpec.ofChange gradeConflictsWrong)

/-- 'tranktop.TopMiddle': WHATEVER THE INPUT: true; the input reads as it did. -/
def topMiddleSpec : ChangeSpec := { name := "topMiddle", fn := fun _ => fun
  | [d1, d2, d3] => { results := [.lit (.bool true)], args := [d1, d2, d3] }
  | _ => none }
def topMiddleRow : OpenClaim := { program := "ytmknengmjepdaaa", sum := "8a59ac9a00892fda446e9d972de76f62d2427290c53edff8b6a841ee9f79631d", func := "trank/tranktop.TopMiddle", spec := "topMiddle", unfollowed := true, recurses := true, apart := false }
def TopMiddleSaid : Prop := topMiddleRow.holds Try.pinned (OpenSpec.ofChange topMiddleSpec)

/-- ITS FALSE NEIGHBOUR: 'it returns false'. Refute it at one input. -/
def topMiddleWrong : ChangeSpec := { name := "topMiddle", fn := fun _ => fun
  | [d1, d2, d3] => { results := [.lit (.bool false)], args := [d1, d2, d3] }
  | _ => none }
def TopMiddleWrongFalsely : Prop := topMiddleRow.holds Try.pinned (OpenSpec.ofChange topMiddleWrong)

/-- 'tranklaw04.GradeLowest': WHATEVER THE INPUT: true; the input reads as it did. -/
def gradeLowestSpec : ChangeSpec := { name := "gradeLowest", fn := fun _ => fun
  | [d1, d2, d3] => { results := [.lit (.bool true)], args := [d1, d2, d3] }
  | _ => none }
def gradeLowestRow : OpenClaim := { program := "ytmknengmjepdaaa", sum := "8a59ac9a00892fda446e9d972de76f62d2427290c53edff8b6a841ee9f79631d", func := "trank/tranklaw04.GradeLowest", spec := "gradeLowest", unfollowed := true, recurses := true, apart := false }
def GradeLowestSaid : Prop := gradeLowestRow.holds Try.pinned (OpenSpec.ofChange gradeLowestSpec)

/-- ITS FALSE NEIGHBOUR: 'it returns false'. Refute it at one input. -/
def gradeLowestWrong : ChangeSpec := { name := "gradeLowest", fn := fun _ => fun
  | [d1, d2, d3] => { results := [.lit (.bool false)], args := [d1, d2, d3] }
  | _ => none }
def GradeLowestWrongFalsely : Prop := gradeLowestRow.holds Try.pinned (OpenSpec.ofChange gradeLowestWrong)

/-- 'tranklaw04.GradeGreatest': WHATEVER THE INPUT: true; the input reads as it did. -/
def gradeGreatestSpec : ChangeSpec := { name := "gradeGreatest", fn := fun _ => fun
  | [d1, d2, d3] => { results := [.lit (.bool true)], args := [d1, d2, d3] }
  | _ => none }
def gradeGreatestRow : OpenClaim := { program := "ytmknengmjepdaaa", sum := "8a59ac9a00892fda446e9d972de76f62d2427290c53edff8b6a841ee9f79631d", func := "trank/tranklaw04.GradeGreatest", spec := "gradeGreatest", unfollowed := true, recurses := true, apart := false }
def GradeGreatestSaid : Prop := gradeGreatestRow.holds Try.pinned (OpenSpec.ofChange gradeGreatestSpec)

/-- ITS FALSE NEIGHBOUR: 'it returns false'. Refute it at one input. -/
def gradeGreatestWrong : ChangeSpec := { name := "gradeGreatest", fn := fun _ => fun
  | [d1, d2, d3] => { results := [.lit (.bool false)], args := [d1, d2, d3] }
  | _ => none }
def GradeGreatestWrongFalsely : Prop := gradeGreatestRow.holds Try.pinned (OpenSpec.ofChange gradeGreatestWrong)

/-- 'tranklaw04.GradeProof': WHATEVER THE INPUT: true; the input reads as it did. -/
def gradeProofSpec : ChangeSpec := { name := "gradeProof", fn := fun _ => fun
  | [d1, d2] => { results := [.lit (.bool true)], args := [d1, d2] }
  | _ => none }
def gradeProofRow : OpenClaim := { program := "ytmknengmjepdaaa", sum := "8a59ac9a00892fda446e9d972de76f62d2427290c53edff8b6a841ee9f79631d", func := "trank/tranklaw04.GradeProof", spec := "gradeProof", unfollowed := true, recurses := true, apart := false }
def GradeProofSaid : Prop := gradeProofRow.holds Try.pinned (OpenSpec.ofChange gradeProofSpec)

/-- ITS FALSE NEIGHBOUR: 'it returns false'. Refute it at one input. -/
def gradeProofWrong : ChangeSpec := { name := "gradeProof", fn := fun _ => fun
  | [d1, d2] => { results := [.lit (.bool false)], args := [d1, d2] }
  | _ => none }
def GradeProofWrongFalsely : Prop := gradeProofRow.holds Try.pinned (OpenSpec.ofChange gradeProofWrong)

/-- 'tranklaw04.GradeImplied': WHATEVER THE INPUT: true; the input reads as it did. -/
def gradeImpliedSpec : ChangeSpec := { name := "gradeImplied", fn := fun _ => fun
  | [d1, d2, d3] => { results := [.lit (.bool true)], args := [d1, d2, d3] }
  | _ => none }
def gradeImpliedRow : OpenClaim := { program := "ytmknengmjepdaaa", sum := "8a59ac9a00892fda446e9d972de76f62d2427290c53edff8b6a841ee9f79631d", func := "trank/tranklaw04.GradeImplied", spec := "gradeImplied", unfollowed := true, recurses := true, apart := false }
def GradeImpliedSaid : Prop := gradeImpliedRow.holds Try.pinned (OpenSpec.ofChange gradeImpliedSpec)

/-- ITS FALSE NEIGHBOUR: 'it returns false'. Refute it at one input. -/
def gradeImpliedWrong : ChangeSpec := { name := "gradeImplied", fn := fun _ => fun
  | [d1, d2, d3] => { results := [.lit (.bool false)], args := [d1, d2, d3] }
  | _ => none }
def GradeImpliedWrongFalsely : Prop := gradeImpliedRow.holds Try.pinned (OpenSpec.ofChange gradeImpliedWrong)

/-- 'tranklaw04.GradeCore': WHATEVER THE INPUT: true; the input reads as it did. -/
def gradeCoreSpec : ChangeSpec := { name := "gradeCore", fn := fun _ => fun
  | [d1, d2] => { results := [.lit (.bool true)], args := [d1, d2] }
  | _ => none }
def gradeCoreRow : OpenClaim := { program := "ytmknengmjepdaaa", sum := "8a59ac9a00892fda446e9d972de76f62d2427290c53edff8b6a841ee9f79631d", func := "trank/tranklaw04.GradeCore", spec := "gradeCore", unfollowed := true, recurses := true, apart := false }
def GradeCoreSaid : Prop := gradeCoreRow.holds Try.pinned (OpenSpec.ofChange gradeCoreSpec)

/-- ITS FALSE NEIGHBOUR: 'it returns false'. Refute it at one input. -/
def gradeCoreWrong : ChangeSpec := { name := "gradeCore", fn := fun _ => fun
  | [d1, d2] => { results := [.lit (.bool false)], args := [d1, d2] }
  | _ => none }
def GradeCoreWrongFalsely : Prop := gradeCoreRow.holds Try.pinned (OpenSpec.ofChange gradeCoreWrong)

/-- 'tranklaw04.GradeFits': WHATEVER THE INPUT: true; the input reads as it did. -/
def gradeFitsSpec : ChangeSpec := { name := "gradeFits", fn := fun _ => fun
  | [d1, d2, d3] => { results := [.lit (.bool true)], args := [d1, d2, d3] }
  | _ => none }
def gradeFitsRow : OpenClaim := { program := "ytmknengmjepdaaa", sum := "8a59ac9a00892fda446e9d972de76f62d2427290c53edff8b6a841ee9f79631d", func := "trank/tranklaw04.GradeFits", spec := "gradeFits", unfollowed := true, recurses := true, apart := false }
def GradeFitsSaid : Prop := gradeFitsRow.holds Try.pinned (OpenSpec.ofChange gradeFitsSpec)

/-- ITS FALSE NEIGHBOUR: 'it returns false'. Refute it at one input. -/
def gradeFitsWrong : ChangeSpec := { name := "gradeFits", fn := fun _ => fun
  | [d1, d2, d3] => { results := [.lit (.bool false)], args := [d1, d2, d3] }
  | _ => none }
def GradeFitsWrongFalsely : Prop := gradeFitsRow.holds Try.pinned (OpenSpec.ofChange gradeFitsWrong)

/-- 'tranklaw04.GradeCored': WHATEVER THE INPUT: true; the input reads as it did. -/
def gradeCoredSpec : ChangeSpec := { name := "gradeCored", fn := fun _ => fun
  | [d1, d2] => { results := [.lit (.bool true)], args := [d1, d2] }
  | _ => none }
def gradeCoredRow : OpenClaim := { program := "ytmknengmjepdaaa", sum := "8a59ac9a00892fda446e9d972de76f62d2427290c53edff8b6a841ee9f79631d", func := "trank/tranklaw04.GradeCored", spec := "gradeCored", unfollowed := true, recurses := true, apart := false }
def GradeCoredSaid : Prop := gradeCoredRow.holds Try.pinned (OpenSpec.ofChange gradeCoredSpec)

/-- ITS FALSE NEIGHBOUR: 'it returns false'. Refute it at one input. -/
def gradeCoredWrong : ChangeSpec := { name := "gradeCored", fn := fun _ => fun
  | [d1, d2] => { results := [.lit (.bool false)], args := [d1, d2] }
  | _ => none }
def GradeCoredWrongFalsely : Prop := gradeCoredRow.holds Try.pinned (OpenSpec.ofChange gradeCoredWrong)

/-- 'tranklaw04.GradeHighest': WHATEVER THE INPUT: true; the input reads as it did. -/
def gradeHighestSpec : ChangeSpec := { name := "gradeHighest", fn := fun _ => fun
  | [d1, d2, d3, d4] => { results := [.lit (.bool true)], args := [d1, d2, d3, d4] }
  | _ => none }
def gradeHighestRow : OpenClaim := { program := "ytmknengmjepdaaa", sum := "8a59ac9a00892fda446e9d972de76f62d2427290c53edff8b6a841ee9f79631d", func := "trank/tranklaw04.GradeHighest", spec := "gradeHighest", unfollowed := true, recurses := true, apart := false }
def GradeHighestSaid : Prop := gradeHighestRow.holds Try.pinned (OpenSpec.ofChange gradeHighestSpec)

/-- ITS FALSE NEIGHBOUR: 'it returns false'. Refute it at one input. -/
def gradeHighestWrong : ChangeSpec := { name := "gradeHighest", fn := fun _ => fun
  | [d1, d2, d3, d4] => { results := [.lit (.bool false)], args := [d1, d2, d3, d4] }
  | _ => none }
def GradeHighestWrongFalsely : Prop := gradeHighestRow.holds Try.pinned (OpenSpec.ofChange gradeHighestWrong)

/- THE SECOND FORM. 'bulk': how many values and letters a reading holds, each counted each time it is reached (what is shared counts as often as it is met; a slice's spare places count too). A statement '..UptoSaid' is the law's where the arguments, and the package variables that the reading takes, are together of bulk at most 1048576: NARROWER than '..Said'. Prove '..Said' where nothing that the law and all that it calls make is longer than what came in: it says more and counts as full. Else prove '..UptoSaid'. A law counts once. -/
mutual
def uptoBulk {H : Type} : DataW H → Nat
  | .lit (.string bytes) => bytes.length + 1
  | .lit _ => 1
  | .nil => 1
  | .ptr d => uptoBulk d + 1
  | .slice elems spare => uptoBulkAll elems + uptoBulkAll spare + 1
  | .agg parts => uptoBulkAll parts + 1
  | .iface _ d => uptoBulk d + 1
  | .map entries => uptoBulkEntries entries + 1
  | .held _ => 1
def uptoBulkAll {H : Type} : List (DataW H) → Nat
  | [] => 0
  | d :: r => uptoBulk d + uptoBulkAll r
def uptoBulkEntries {H : Type} : List (Lit × DataW H) → Nat
  | [] => 0
  | x :: r => uptoBulkEntry x + uptoBulkEntries r
def uptoBulkEntry {H : Type} : Lit × DataW H → Nat
  | (.string bytes, d) => bytes.length + uptoBulk d + 1
  | (_, d) => uptoBulk d + 1
 end
def uptoSmall : (H : Type) → List (DataW H) → Bool := fun _ ds => decide (uptoBulkAll ds ≤ 1048576)
def OpenSpec.upto (s : _root_.Go.ChangeSpec) : _root_.Go.OpenSpec := { _root_.Go.OpenSpec.ofChange s with cond := some uptoSmall }

/-- 'tranklaw04.GradeLeast', WHERE WHAT IT READS IS OF BULK AT MOST 1048576: true; the input reads as it did. -/
def gradeLeastUptoRow : OpenClaim := { program := "ytmknengmjepdaaa", sum := "8a59ac9a00892fda446e9d972de76f62d2427290c53edff8b6a841ee9f79631d", func := "trank/tranklaw04.GradeLeast", spec := "gradeLeast", unfollowed := true, recurses := true, apart := false, narrowed := true }
def GradeLeastUptoSaid : Prop := gradeLeastUptoRow.holds Try.pinned (OpenSpec.upto gradeLeastSpec)

/-- 'tranklaw04.GradeGrowth', WHERE WHAT IT READS IS OF BULK AT MOST 1048576: true; the input reads as it did. -/
def gradeGrowthUptoRow : OpenClaim := { program := "ytmknengmjepdaaa", sum := "8a59ac9a00892fda446e9d972de76f62d2427290c53edff8b6a841ee9f79631d", func := "trank/tranklaw04.GradeGrowth", spec := "gradeGrowth", unfollowed := true, recurses := true, apart := false, narrowed := true }
def GradeGrowthUptoSaid : Prop := gradeGrowthUptoRow.holds Try.pinned (OpenSpec.upto gradeGrowthSpec)

/-- 'tranklaw04.GradeLoops', WHERE WHAT IT READS IS OF BULK AT MOST 1048576: true; the input reads as it did. -/
def gradeLoopsUptoRow : OpenClaim := { program := "ytmknengmjepdaaa", sum := "8a59ac9a00892fda446e9d972de76f62d2427290c53edff8b6a841ee9f79631d", func := "trank/tranklaw04.GradeLoops", spec := "gradeLoops", unfollowed := true, recurses := true, apart := false, narrowed := true }
def GradeLoopsUptoSaid : Prop := gradeLoopsUptoRow.holds Try.pinned (OpenSpec.upto gradeLoopsSpec)

/-- 'tranklaw04.GradeTight', WHERE WHAT IT READS IS OF BULK AT MOST 1048576: true; the input reads as it did. -/
def gradeTightUptoRow : OpenClaim := { program := "ytmknengmjepdaaa", sum := "8a59ac9a00892fda446e9d972de76f62d2427290c53edff8b6a841ee9f79631d", func := "trank/tranklaw04.GradeTight", spec := "gradeTight", unfollowed := true, recurses := true, apart := false, narrowed := true }
def GradeTightUptoSaid : Prop := gradeTightUptoRow.holds Try.pinned (OpenSpec.upto gradeTightSpec)

/-- 'tranklaw04.GradeChains', WHERE WHAT IT READS IS OF BULK AT MOST 1048576: true; the input reads as it did. -/
def gradeChainsUptoRow : OpenClaim := { program := "ytmknengmjepdaaa", sum := "8a59ac9a00892fda446e9d972de76f62d2427290c53edff8b6a841ee9f79631d", func := "trank/tranklaw04.GradeChains", spec := "gradeChains", unfollowed := true, recurses := true, apart := false, narrowed := true }
def GradeChainsUptoSaid : Prop := gradeChainsUptoRow.holds Try.pinned (OpenSpec.upto gradeChainsSpec)

/-- 'tranklaw04.GradeEqual', WHERE WHAT IT READS IS OF BULK AT MOST 1048576: true; the input reads as it did. -/
def gradeEqualUptoRow : OpenClaim := { program := "ytmknengmjepdaaa", sum := "8a59ac9a00892fda446e9d972de76f62d2427290c53edff8b6a841ee9f79631d", func := "trank/tranklaw04.GradeEqual", spec := "gradeEqual", unfollowed := true, recurses := true, apart := false, narrowed := true }
def GradeEqualUptoSaid : Prop := gradeEqualUptoRow.holds Try.pinned (OpenSpec.upto gradeEqualSpec)

/-- 'tranklaw04.GradeGaps', WHERE WHAT IT READS IS OF BULK AT MOST 1048576: true; the input reads as it did. -/
def gradeGapsUptoRow : OpenClaim := { program := "ytmknengmjepdaaa", sum := "8a59ac9a00892fda446e9d972de76f62d2427290c53edff8b6a841ee9f79631d", func := "trank/tranklaw04.GradeGaps", spec := "gradeGaps", unfollowed := true, recurses := true, apart := false, narrowed := true }
def GradeGapsUptoSaid : Prop := gradeGapsUptoRow.holds Try.pinned (OpenSpec.upto gradeGapsSpec)

/-- 'tranklaw04.GradeSizes', WHERE WHAT IT READS IS OF BULK AT MOST 1048576: true; the input reads as it did. -/
def gradeSizesUptoRow : OpenClaim := { program := "ytmknengmjepdaaa", sum := "8a59ac9a00892fda446e9d972de76f62d2427290c53edff8b6a841ee9f79631d", func := "trank/tranklaw04.GradeSizes", spec := "gradeSizes", unfollowed := true, recurses := true, apart := false, narrowed := true }
def GradeSizesUptoSaid : Prop := gradeSizesUptoRow.holds Try.pinned (OpenSpec.upto gradeSizesSpec)

/-- 'tranklaw04.GradeEnds', WHERE WHAT IT READS IS OF BULK AT MOST 1048576: true; the input reads as it did. -/
def gradeEndsUptoRow : OpenClaim := { program := "ytmknengmjepdaaa", sum := "8a59ac9a00892fda446e9d972de76f62d2427290c53edff8b6a841ee9f79631d", func := "trank/tranklaw04.GradeEnds", spec := "gradeEnds", unfollowed := true, recurses := true, apart := false, narrowed := true }
def GradeEndsUptoSaid : Prop := gradeEndsUptoRow.holds Try.pinned (OpenSpec.upto gradeEndsSpec)

/-- 'tranklaw04.GradeConflicts', WHERE WHAT IT READS IS OF BULK AT MOST 1048576: true; the input reads as it did. -/
def gradeConflictsUptoRow : OpenClaim := { program := "ytmknengmjepdaaa", sum := "8a59ac9a00892fda446e9d972de76f62d2427290c53edff8b6a841ee9f79631d", func := "trank/tranklaw04.GradeConflicts", spec := "gradeConflicts", unfollowed := true, recurses := true, apart := false, narrowed := true }
def GradeConflictsUptoSaid : Prop := gradeConflictsUptoRow.holds Try.pinned (OpenSpec.upto gradeConflictsSpec)

/-- 'tranktop.TopMiddle', WHERE WHAT IT READS IS OF BULK AT MOST 1048576: true; the input reads as it did. -/
def topMiddleUptoRow : OpenClaim := { program := "ytmknengmjepdaaa", sum := "8a59ac9a00892fda446e9d972de76f62d2427290c53edff8b6a841ee9f79631d", func := "trank/tranktop.TopMiddle", spec := "topMiddle", unfollowed := true, recurses := true, apart := false, narrowed := true }
def TopMiddleUptoSaid : Prop := topMiddleUptoRow.holds Try.pinned (OpenSpec.upto topMiddleSpec)

/-- 'tranklaw04.GradeLowest', WHERE WHAT IT READS IS OF BULK AT MOST 1048576: true; the input reads as it did. -/
def gradeLowestUptoRow : OpenClaim := { program := "ytmknengmjepdaaa", sum := "8a59ac9a00892fda446e9d972de76f62d2427290c53edff8b6a841ee9f79631d", func := "trank/tranklaw04.GradeLowest", spec := "gradeLowest", unfollowed := true, recurses := true, apart := false, narrowed := true }
def GradeLowestUptoSaid : Prop := gradeLowestUptoRow.holds Try.pinned (OpenSpec.upto gradeLowestSpec)

/-- 'tranklaw04.GradeGreatest', WHERE WHAT IT READS IS OF BULK AT MOST 1048576: true; the input reads as it did. -/
def gradeGreatestUptoRow : OpenClaim := { program := "ytmknengmjepdaaa", sum := "8a59ac9a00892fda446e9d972de76f62d2427290c53edff8b6a841ee9f79631d", func := "trank/tranklaw04.GradeGreatest", spec := "gradeGreatest", unfollowed := true, recurses := true, apart := false, narrowed := true }
def GradeGreatestUptoSaid : Prop := gradeGreatestUptoRow.holds Try.pinned (OpenSpec.upto gradeGreatestSpec)

/-- 'tranklaw04.GradeProof', WHERE WHAT IT READS IS OF BULK AT MOST 1048576: true; the input reads as it did. -/
def gradeProofUptoRow : OpenClaim := { program := "ytmknengmjepdaaa", sum := "8a59ac9a00892fda446e9d972de76f62d2427290c53edff8b6a841ee9f79631d", func := "trank/tranklaw04.GradeProof", spec := "gradeProof", unfollowed := true, recurses := true, apart := false, narrowed := true }
def GradeProofUptoSaid : Prop := gradeProofUptoRow.holds Try.pinned (OpenSpec.upto gradeProofSpec)

/-- 'tranklaw04.GradeImplied', WHERE WHAT IT READS IS OF BULK AT MOST 1048576: true; the input reads as it did. -/
def gradeImpliedUptoRow : OpenClaim := { program := "ytmknengmjepdaaa", sum := "8a59ac9a00892fda446e9d972de76f62d2427290c53edff8b6a841ee9f79631d", func := "trank/tranklaw04.GradeImplied", spec := "gradeImplied", unfollowed := true, recurses := true, apart := false, narrowed := true }
def GradeImpliedUptoSaid : Prop := gradeImpliedUptoRow.holds Try.pinned (OpenSpec.upto gradeImpliedSpec)

/-- 'tranklaw04.GradeCore', WHERE WHAT IT READS IS OF BULK AT MOST 1048576: true; the input reads as it did. -/
def gradeCoreUptoRow : OpenClaim := { program := "ytmknengmjepdaaa", sum := "8a59ac9a00892fda446e9d972de76f62d2427290c53edff8b6a841ee9f79631d", func := "trank/tranklaw04.GradeCore", spec := "gradeCore", unfollowed := true, recurses := true, apart := false, narrowed := true }
def GradeCoreUptoSaid : Prop := gradeCoreUptoRow.holds Try.pinned (OpenSpec.upto gradeCoreSpec)

/-- 'tranklaw04.GradeFits', WHERE WHAT IT READS IS OF BULK AT MOST 1048576: true; the input reads as it did. -/
def gradeFitsUptoRow : OpenClaim := { program := "ytmknengmjepdaaa", sum := "8a59ac9a00892fda446e9d972de76f62d2427290c53edff8b6a841ee9f79631d", func := "trank/tranklaw04.GradeFits", spec := "gradeFits", unfollowed := true, recurses := true, apart := false, narrowed := true }
def GradeFitsUptoSaid : Prop := gradeFitsUptoRow.holds Try.pinned (OpenSpec.upto gradeFitsSpec)

/-- 'tranklaw04.GradeCored', WHERE WHAT IT READS IS OF BULK AT MOST 1048576: true; the input reads as it did. -/
def gradeCoredUptoRow : OpenClaim := { program := "ytmknengmjepdaaa", sum := "8a59ac9a00892fda446e9d972de76f62d2427290c53edff8b6a841ee9f79631d", func := "trank/tranklaw04.GradeCored", spec := "gradeCored", unfollowed := true, recurses := true, apart := false, narrowed := true }
def GradeCoredUptoSaid : Prop := gradeCoredUptoRow.holds Try.pinned (OpenSpec.upto gradeCoredSpec)

/-- 'tranklaw04.GradeHighest', WHERE WHAT IT READS IS OF BULK AT MOST 1048576: true; the input reads as it did. -/
def gradeHighestUptoRow : OpenClaim := { program := "ytmknengmjepdaaa", sum := "8a59ac9a00892fda446e9d972de76f62d2427290c53edff8b6a841ee9f79631d", func := "trank/tranklaw04.GradeHighest", spec := "gradeHighest", unfollowed := true, recurses := true, apart := false, narrowed := true }
def GradeHighestUptoSaid : Prop := gradeHighestUptoRow.holds Try.pinned (OpenSpec.upto gradeHighestSpec)

end Rows
end Go.Proofs.Ytmknengmjepdaaa
