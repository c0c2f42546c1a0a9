/- Walk of the law CurveSum. -/
import Derived.Test.YtfkclcoipadhmaaGreatDoorEv
import Derived.Test.YtfkclcoipadhmaaGreatDoorDw
import Derived.Test.YtfkclcoipadhmaaGreatDoorEe
namespace Go.Proofs.YtfkclcoipadhmaaGreatDoor
open Go.RowKit
attribute [local irreducible] seqS seqST walkV walkJ

set_option maxHeartbeats 4000000 in
set_option maxRecDepth 100000 in
theorem CurveSum_any (c d : List P4) (u v : Value) (w : World) (h : P4R 0 w u c) (k : P4R 0 w v d) (hz : Z0 w) :
    Calls Tryz.prog 3 #[u, v] w fun r w' => r = .returned (.bool true) ∧ Below w.heap.size w w' := by
  have S1 := hid (Sum_any c d u v w h k hz)
  have S2 := hid (fun w h k => rSum_any c d u v w h k)
  have T1 := hid (fun w h k hz => Series_any c d u v w h k hz)
  have T2 := hid (fun w h k => rSeries_any c d u v w h k)
  have EP := hid (fun u v w h1 h2 => eqP_self (sumL c d) u v w h1 h2)
  have EQ := hid (fun u v w h1 h2 => Equal_any (serL c d) (serL c d) u v w h1 h2)
  rw [decide_eq_true rfl] at EQ
  generalize sumL c d = T at S1 S2 EP
  generalize sumE c d = E at S1 S2
  generalize serL c d = T' at T1 T2 EQ
  generalize serE c d = E' at T1 T2
  go_enter Tryz.func3, Tryz.ntmps3
  go_wp2_with fail
  refine S1.out.mono ?_
  rintro r w1 ⟨⟨u1, rfl, q1⟩, hB⟩
  replace q1 := PsR.mono q1 (Nat.zero_le _)
  have h1 := h.below hB
  have k1 := k.below hB
  have hz1 := hz.below hB
  clear h k hz S1
  go_wp2_with fail
  refine (S2.out _ h1 k1).mono ?_
  rintro r w2 ⟨⟨u2, rfl, q2⟩, hb2⟩
  replace q2 := PsR.mono q2 (Nat.zero_le _)
  replace q1 := q1.below hb2
  have h2 := h1.below hb2
  have k2 := k1.below hb2
  have hz2 := hz1.below hb2
  replace hB := hB.trans (hb2.mono hB.size)
  clear h1 k1 hz1 S2 hb2
  go_wp2_with fail
  refine (T1.out _ h2 k2 hz2).mono ?_
  rintro r w3 ⟨⟨u3, rfl, q3⟩, hb3⟩
  replace q3 := SlR.mono q3 (Nat.zero_le _)
  replace q1 := q1.below hb3
  replace q2 := q2.below hb3
  have h3 := h2.below hb3
  have k3 := k2.below hb3
  have hz3 := hz2.below hb3
  replace hB := hB.trans (hb3.mono hB.size)
  clear h2 k2 hz2 T1 hb3
  go_wp2_with fail
  refine (T2.out _ h3 k3).mono ?_
  rintro r w4 ⟨⟨u4, rfl, q4⟩, hb4⟩
  replace q4 := SlR.mono q4 (Nat.zero_le _)
  replace q1 := q1.below hb4
  replace q2 := q2.below hb4
  replace q3 := SlR.below q3 hb4
  have hz4 := hz3.below hb4
  replace hB := hB.trans (hb4.mono hB.size)
  clear h3 k3 hz3 T2 hb4
  go_wp2_with fail
  refine (EP.out _ _ _ q1 q2).mono ?_
  rintro r w5 ⟨rfl, hb5⟩
  replace q3 := SlR.below q3 hb5
  replace q4 := SlR.below q4 hb5
  have hz5 := hz4.below hb5
  replace hB := hB.trans (hb5.mono hB.size)
  clear q1 q2 hz4 EP hb5
  go_wp2_with fail
  refine (EQ.out _ _ _ q3 q4).mono ?_
  rintro r w6 ⟨rfl, hb6⟩
  have hz6 := hz5.below hb6
  replace hB := hB.trans (hb6.mono hB.size)
  clear q3 q4 hz5 EQ hb6
  go_wp2_with fail
  refine (awake_any _ hz6).mono ?_
  rintro r w7 ⟨rfl, hb7⟩
  replace hB := hB.trans (hb7.mono hB.size)
  clear hz6 hb7
  go_wp2
  go_ret
  exact ⟨rfl, hB⟩

end Go.Proofs.YtfkclcoipadhmaaGreatDoor
