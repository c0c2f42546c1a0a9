/- Walk of the law CurveCompose. -/
import Derived.Test.YtfkclcoipadhmaaGreatDoorDw
import Derived.Test.YtfkclcoipadhmaaGreatDoorEw
import Derived.Test.YtfkclcoipadhmaaGreatDoorEe
namespace Go.Proofs.YtfkclcoipadhmaaGreatDoor
open Go.RowKit
attribute [local irreducible] seqS seqST walkV walkJ

set_option maxHeartbeats 4000000 in
set_option maxRecDepth 100000 in
theorem CurveCompose_any (c d : List P4) (u v : Value) (w : World) (h : P4R 0 w u c) (k : P4R 0 w v d) (hz : Z0 w) :
    Calls Tryz.prog 4 #[u, v] w fun r w' => r = .returned (.bool true) ∧ Below w.heap.size w w' := by
  have S1 := hid (Compose_any c d u v w h k hz)
  have S2 := hid (fun w h k => rCompose_any c d u v w h k)
  have EP := hid (fun u v w h1 h2 => eqP_self (cpsL c d) u v w h1 h2)
  generalize cpsL c d = T at S1 S2 EP
  generalize cpsE c d = E at S1 S2
  go_enter Tryz.func4, Tryz.ntmps4
  go_wp2_with fail
  refine S1.out.mono ?_
  rintro r w1 ⟨⟨u1, rfl, q1⟩, hb1⟩
  replace q1 := PsR.mono q1 (Nat.zero_le _)
  have h1 := h.below hb1
  have k1 := k.below hb1
  have hz1 := hz.below hb1
  clear h k hz S1
  go_wp2_with fail
  refine (S2.out _ h1 k1).mono ?_
  rintro r w2 ⟨⟨u2, rfl, q2⟩, hb2⟩
  replace q2 := PsR.mono q2 (Nat.zero_le _)
  replace q1 := q1.below hb2
  have hz2 := hz1.below hb2
  replace hb2 := hb1.trans (hb2.mono hb1.size)
  clear h1 k1 hz1 S2 hb1
  go_wp2_with fail
  refine (EP.out _ _ _ q1 q2).mono ?_
  rintro r w3 ⟨rfl, hb3⟩
  have hz3 := hz2.below hb3
  replace hb3 := hb2.trans (hb3.mono hb2.size)
  clear q1 q2 hz2 EP hb2
  go_wp2_with fail
  refine (awake_any _ hz3).mono ?_
  rintro r w4 ⟨rfl, hb4⟩
  replace hb4 := hb3.trans (hb4.mono hb3.size)
  clear hz3 hb3
  go_wp2
  go_ret
  exact ⟨rfl, hb4⟩

end Go.Proofs.YtfkclcoipadhmaaGreatDoor
