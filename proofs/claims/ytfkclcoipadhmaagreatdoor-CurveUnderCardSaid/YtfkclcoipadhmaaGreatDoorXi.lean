/- Walk of the law CurveUnder. -/
import Derived.Test.YtfkclcoipadhmaaGreatDoorDw
import Derived.Test.YtfkclcoipadhmaaGreatDoorEx
import Derived.Test.YtfkclcoipadhmaaGreatDoorEz
namespace Go.Proofs.YtfkclcoipadhmaaGreatDoor
open Go.RowKit
attribute [local irreducible] seqS seqST walkV walkJ

set_option maxHeartbeats 4000000 in
set_option maxRecDepth 100000 in
theorem CurveUnder_any (c d : List P4) (u v : Value) (w : World) (h : P4R 0 w u c) (k : P4R 0 w v d) (hz : Z0 w) :
    Calls Tryz.prog 5 #[u, v] w fun r w' => r = .returned (.bool true) ∧ Below w.heap.size w w' := by
  have S1 := hid (Under_any c d u v w h k hz)
  have S2 := hid (fun w h k => rUnder_any c d u v w h k)
  have T1 := hid (fun w h k hz => Same_any c d u v w h k hz)
  have T2 := hid (fun w h k => rSame_any c d u v w h k)
  generalize undB c d = T at S1 S2
  generalize undE c d = E at S1 S2
  generalize samB c d = T' at T1 T2
  generalize samE c d = E' at T1 T2
  go_enter Tryz.func5, Tryz.ntmps5
  go_wp2_with fail
  refine S1.out.mono ?_
  rintro r w1 ⟨rfl, hB⟩
  have h1 := h.below hB
  have k1 := k.below hB
  have hz1 := hz.below hB
  clear h k hz S1
  go_wp2_with fail
  refine (S2.out _ h1 k1).mono ?_
  rintro r w2 ⟨rfl, hb2⟩
  have h2 := h1.below hb2
  have k2 := k1.below hb2
  have hz2 := hz1.below hb2
  replace hB := hB.trans (hb2.mono hB.size)
  clear h1 k1 hz1 S2 hb2
  go_wp2_with fail
  refine (T1.out _ h2 k2 hz2).mono ?_
  rintro r w3 ⟨rfl, hb3⟩
  have h3 := h2.below hb3
  have k3 := k2.below hb3
  have hz3 := hz2.below hb3
  replace hB := hB.trans (hb3.mono hB.size)
  clear h2 k2 hz2 T1 hb3
  go_wp2_with fail
  refine (T2.out _ h3 k3).mono ?_
  rintro r w4 ⟨rfl, hb4⟩
  have hz4 := hz3.below hb4
  replace hB := hB.trans (hb4.mono hB.size)
  clear h3 k3 hz3 T2 hb4
  go_wp2_with fail
  refine (awake_any _ hz4).mono ?_
  rintro r w5 ⟨rfl, hb5⟩
  replace hB := hB.trans (hb5.mono hB.size)
  clear hz4 hb5
  go_wp2
  go_ret
  exact ⟨rfl, hB⟩

end Go.Proofs.YtfkclcoipadhmaaGreatDoor
